/-
  THE WALK OF OctetReads.
-/
import Derived.Test.YtciagdechmkgjaaOctP
import Derived.Test.YtciagdechmkgjaaOpen
import Derived.Deep.RegionHeld3
namespace Go.Proofs.Ytciagdechmkgjaa
open Go.RowKit Go.Shelf
set_option linter.unusedVariables false

/-- The bytes of a new tape are its own. -/
def NewP2 (zs : List Int) (w : World) (e : Ending) (w' : World) : Prop := ∃ t a cap, e = .returned (.pointer (some ⟨t, 0, none⟩)) ∧ w.heap.size ≤ t ∧ TapeAt w' t zs false ∧ Nw w w' ∧ w'.cell? ⟨t, 0, none⟩ = some (.slice a zs.length cap) ∧ (zs = [] ∨ ∃ b off, a = some ⟨b, off, none⟩ ∧ w.heap.size ≤ b ∧ b < t)
set_option maxHeartbeats 1000000 in
theorem new_own (a : Option Addr) (len cap : Nat) (zs : List Int) (hl : zs.length = len) (hreach : len ≤ 140737488355000) (hz : ∀ x ∈ zs, isByte x) (w : World) (hI : Ints w.heap.size .u8 w a zs) :
    Calls Try.prog 14 #[.slice a len cap] w (NewP2 zs w) := by
  have HZ := Lib.hid hz
  subst hl
  clear hz
  go_enter Try.func14, Try.ntmps14
  go_wp2_with fail
  refine (clone_any a _ cap zs rfl hreach _ hI).mono ?_
  rintro e w1 ⟨v1, rfl, ho1, hw1⟩
  have hlt := hw1.b.size
  have hlo : Hid (zs = [] ∨ ∃ g cap, v1 = .slice (some ⟨g, 0, none⟩) zs.length cap ∧ w.heap.size ≤ g ∧ g < w1.heap.size) := by
    rcases Nat.eq_zero_or_pos zs.length with h | h
    · exact .inl (List.length_eq_zero_iff.1 h)
    · exact .inr (own_pos ho1 h)
  obtain ⟨x, c, rfl, _, hI1⟩ := Ints.of_owns ho1
  have hle := own_cap ho1
  have HO := Lib.hid hI1
  have HW := Lib.hid hw1
  clear ho1 hI1 hw1 hI
  go_wp2_with fail
  go_ret
  refine ⟨w1.heap.size, x, c, rfl, hlt, ⟨⟨x, c, by simp [go_sem], hle, HO.out.below ((Below.refl _ w1).alloc (Nat.le_refl _) _)⟩, by simp [go_sem], by simp [go_sem], by simp [go_sem], HZ.out, by omega⟩, HW.out.alloc _, by simp [go_sem], ?_⟩
  rcases hlo.out with h | ⟨g, cap', h, h1, h2⟩
  · exact .inl h
  · simp only [Value.slice.injEq] at h
    exact .inr ⟨g, 0, h.1, h1, h2⟩

theorem TapeAt.other {w w' : World} {t g : Nat} {zs : List Int} {torn : Bool} (h : TapeAt w t zs torn) (k : Up g w w') (hg : t ≠ g) {a : Option Addr} {cap : Nat} (hs : w.cell? ⟨t, 0, none⟩ = some (.slice a zs.length cap)) (hb : zs = [] ∨ ∃ b off, a = some ⟨b, off, none⟩ ∧ b ≠ g) : TapeAt w' t zs torn := by
  obtain ⟨a', cap', s1, s2, s3⟩ := h.s
  rw [s1] at hs
  simp only [Option.some.injEq, Value.slice.injEq, true_and] at hs
  obtain ⟨rfl, rfl⟩ := hs
  have hl := h.lt
  refine ⟨⟨a', cap', k.cell s1 hg, s2, ?_⟩, k.cell h.c1 hg, (k.frozen (p := ⟨t, 0, none⟩) hl hg).trans h.f0, (k.frozen (p := ⟨t, 1, none⟩) hl hg).trans h.f1, h.by_, h.le⟩
  rcases hb with rfl | ⟨b, off, rfl, hbg⟩
  · exact .inl rfl
  · rcases s3 with hz | ⟨b', off', e, hb', hc⟩
    · exact .inl hz
    · simp only [Option.some.injEq, Addr.mk.injEq, and_true] at e
      obtain ⟨rfl, rfl⟩ := e
      exact .inr ⟨b, off, rfl, hb', fun j hj => k.cell (hc j hj) hbg⟩
theorem own_frozen {w : World} {base g : Nat} {e : TypeId} {n cap : Nat} {xs : List Value} (h : w.ownsRow base e 1 (.slice (some ⟨g, 0, none⟩) n cap) n xs) (j : Nat) : w.frozen? ⟨g, j, none⟩ = false := by
  rcases h.2 with ⟨h1, _⟩ | ⟨g', c, cur, h1, _, hh, _⟩
  · cases h1
  · simp only [Value.slice.injEq, Option.some.injEq, Addr.mk.injEq, and_true] at h1
    obtain ⟨rfl, _⟩ := h1
    exact frozen_of_row w g j _ e hh

set_option maxRecDepth 100000 in
set_option maxHeartbeats 4000000 in
theorem walk_reads (a0 : Option Addr) (len0 cap0 : Nat) (zs : List Int) (hl0 : zs.length = len0) (hcap0 : len0 ≤ cap0) (hr0 : len0 ≤ 140737488351232) (hz0 : ∀ x ∈ zs, isByte x)
    (a1 : Option Addr) (len1 cap1 : Nat) (ss : List (Int × Int)) (hl1 : ss.length = len1) (hr1 : len1 ≤ 9223372036854775807) (hs0 : ∀ x ∈ ss, isByte x.1 ∧ x.2 ≤ 9223372036854775807)
    (w : World) (hI0 : Ints w.heap.size .u8 w a0 zs) (hI1 : Pairs .u8 .i64 w.heap.size w a1 ss) :
    Calls Try.prog 5 #[.slice a0 len0 cap0, .slice a1 len1 cap1] w fun e w' => e = .returned (.bool true) ∧ Below w.heap.size w w' := by
  obtain ⟨i0, hi, hz0', hz1, hz2⟩ := info_parts8 info_u8
  by_cases hbig : 4096 < len0 ∨ 200 < len1
  · have HNB := Lib.hid hbig
    clear hI0 hI1 hs0 hz0 hl0 hl1
    rcases hbig with h | h
    · have hd : decide (4096 < (len0 : Int)) = true := by simp; omega
      go_enter Try.func5, Try.ntmps5
      go_wp2_with fail
      refine (works_any _).mono ?_
      rintro e w1 ⟨rfl, hN⟩
      go_wp2_with fail
      go_ret
      exact ⟨rfl, hN.b⟩
    · by_cases h4 : 4096 < len0
      · have hd : decide (4096 < (len0 : Int)) = true := by simp; omega
        go_enter Try.func5, Try.ntmps5
        go_wp2_with fail
        refine (works_any _).mono ?_
        rintro e w1 ⟨rfl, hN⟩
        go_wp2_with fail
        go_ret
        exact ⟨rfl, hN.b⟩
      · have hd : decide (4096 < (len0 : Int)) = false := by simp; omega
        have hd2 : decide (200 < (len1 : Int)) = true := by simp; omega
        go_enter Try.func5, Try.ntmps5
        go_wp2_with fail
        refine (works_any _).mono ?_
        rintro e w1 ⟨rfl, hN⟩
        go_wp2_with fail
        go_ret
        exact ⟨rfl, hN.b⟩
  have hd1 : decide (4096 < (len0 : Int)) = false := by simp; omega
  have hd2 : decide (200 < (len1 : Int)) = false := by simp; omega
  have hl0' : len0 ≤ 4096 := by omega
  have hl1' : len1 ≤ 200 := by omega
  have HI0 := Lib.hid hI0
  have HI1 := Lib.hid hI1
  have HZ0 := Lib.hid hz0
  have HS0 := Lib.hid hs0
  have HL0 := Lib.hid hl0
  have HL1 := Lib.hid hl1
  clear hI0 hI1 hz0 hs0 hl0 hl1 hbig
  go_enter Try.func5, Try.ntmps5
  go_wp2_with (at_builtin; refine wpList_append_ints _ rfl _ _ 23 rfl w.heap.size 5 i0 (.int .u8 0) 1 Try.underlying23 hi hz0' hz1 hz2 rfl _ 0 [] rfl (World.ownsRow_made _ #[] 0 (Nat.le_refl _) (Nat.zero_le _) (by simp)) a0 len0 cap0 .u8 zs w.heap.size rfl HL0.out (HI0.out.below ((Below.refl _ w).alloc (Nat.le_refl _) _)) (by unfold maxLen; omega) (by omega) (by simp) ?_; intro v1 W1 hown1 hgrow1; have hb1 : Below w.heap.size w W1 := ((Below.refl _ w).alloc (Nat.le_refl _) _).grown hgrow1 (by simp) (fun k e => by cases e; exact Nat.le_refl _); have hW1 : w.heap.size < W1.heap.size := Nat.lt_of_lt_of_le (by simp) hgrow1.size; clear hgrow1; simp only [Nat.zero_add, List.nil_append] at hown1)
  obtain ⟨oa, oc, rfl⟩ := own_slice hown1
  have hgo : ∃ g, (0 < len0 → oa = some ⟨g, 0, none⟩) ∧ w.heap.size ≤ g ∧ g < W1.heap.size := by
    rcases Nat.eq_zero_or_pos len0 with h | h
    · exact ⟨w.heap.size, fun h' => by omega, Nat.le_refl _, hW1⟩
    · obtain ⟨g, cap, e, h1, h2⟩ := own_pos hown1 h
      simp only [Value.slice.injEq] at e
      exact ⟨g, fun _ => e.1, h1, h2⟩
  obtain ⟨g, hgo, hg1, hg2⟩ := hgo
  have HGO := Lib.hid hgo
  obtain ⟨oa', oc', e1, _, hIo⟩ := Ints.of_owns hown1
  simp only [Value.slice.injEq, true_and] at e1
  obtain ⟨rfl, rfl⟩ := e1
  have HIo := Lib.hid hIo
  have HOW := Lib.hid hown1
  have HB1 := Lib.hid hb1
  clear hIo hown1 hb1 hgo
  refine (new_own oa len0 oc zs HL0.out (by omega) HZ0.out _ HIo.out).mono ?_
  rintro e w2 ⟨t, ta, tc, rfl, ht, hT, hN2, hts, htb⟩
  have hs2 := hN2.b.size
  have htl := hT.lt
  have HT2 := Lib.hid (hT.nw (Nw.refl.alloc (.cells #[.slice a0 len0 cap0, .bool false] 40)))
  have HB2 := Lib.hid ((HB1.out.trans (hN2.b.mono (by omega))).alloc (by omega) (.cells #[.slice a0 len0 cap0, .bool false] 40))
  have HR2 : Hid (TapeAt (w2.alloc (.cells #[.slice a0 len0 cap0, .bool false] 40)) w2.heap.size zs false w.heap.size) := by
    refine ⟨⟨a0, cap0, by rw [HL0.out]; simp [go_sem], by rw [HL0.out]; exact hcap0, HI0.out.below HB2.out⟩, by simp [go_sem], by simp [go_sem], by simp [go_sem], HZ0.out, by rw [HL0.out]; omega⟩
  have HOW2 := Lib.hid (own_below ((hN2.b.mono (Nat.le_refl _)).alloc hs2 (.cells #[.slice a0 len0 cap0, .bool false] 40)) HOW.out)
  have HTS := Lib.hid ((World.cell?_alloc_past (w := w2) (.cells #[.slice a0 len0 cap0, .bool false] 40) t 0 htl).trans hts)
  have HTB := Lib.hid htb
  clear hT hN2 hts htb
  go_wp2_with fail
  have hsz3 : (w2.alloc (.cells #[.slice a0 len0 cap0, .bool false] 40)).heap.size = w2.heap.size + 1 := by simp
  have hcr : (w2.alloc (.cells #[.slice a0 len0 cap0, .bool false] 40)).cell? ⟨w2.heap.size, 0, none⟩ = some (.slice a0 zs.length cap0) := by rw [HL0.out]; simp [go_sem]
  have HCR := Lib.hid hcr
  clear hcr
  obtain ⟨r, hr⟩ : ∃ r, w2.heap.size = r := ⟨_, rfl⟩
  generalize w2.alloc (.cells #[.slice a0 len0 cap0, .bool false] 40) = W3 at *
  rw [hr] at HR2 HCR hs2 htl hsz3 ⊢
  clear hr
  clear w2
  go_loopw [8] (fun i wr => ∃ (k : Nat) (ys : List Int), k ≤ len0 ∧ i = .int .i64 k ∧ ys.length = len0 ∧ wr.ownsRow w.heap.size 5 1 (.slice oa len0 oc) len0 (ys.map (.int .u8)) ∧ Up g W3 wr) (fun i _ => len0 - (intOf i).toNat)
  case atStart => exact ⟨0, zs, Nat.zero_le _, rfl, HL0.out, HOW2.out, Up.refl _ _⟩
  case round =>
  obtain ⟨k, ys, hk, rfl, hys, hown, hup⟩ := hrel
  by_cases hlt : k < len0
  · have hga := HGO.out (by omega)
    subst hga
    have hc := own_cell hown hlt
    have hf := own_frozen hown k
    obtain ⟨x, hx⟩ : ∃ x, ys[k]?.getD 0 = x := ⟨_, rfl⟩
    rw [hx] at hc
    have HOWN := Lib.hid hown
    have HUP := Lib.hid hup
    have HYS := Lib.hid hys
    clear hown hup hys hx
    go_wp2_with fail
    go_roundw
    case rel => exact ⟨k + 1, ys.set k _, by omega, by go_num, by rw [List.length_set]; exact HYS.out, own_set HOWN.out k _, HUP.out.set k _⟩
    case measure => simp [intOf]; omega
  have hT3 : TapeAt wr t zs false := HT2.out.other hup (by omega) HTS.out (by
    rcases HTB.out with h | ⟨b, off, h1, h2, _⟩
    · exact .inl h
    · exact .inr ⟨b, off, h1, by omega⟩)
  have hR3 : TapeAt wr r zs false w.heap.size := HR2.out.upM hup (by omega) hg1 (by omega)
  have hB3 : Below w.heap.size w wr := Up.below HB2.out hup (by omega) hg1
  obtain rfl : k = len0 := by omega
  clear hown hys
  have HT3 := Lib.hid hT3
  have HR3 := Lib.hid hR3
  have HB3 := Lib.hid hB3
  clear hT3 hR3 hB3 hup
  rename_i hw
  clear hw
  go_wp2_with fail
  obtain ⟨W4, hW4⟩ : ∃ W4, wr = W4 := ⟨_, rfl⟩
  rw [hW4] at HT3 HR3 HB3 ⊢
  clear hW4 
  go_loopw [9] (fun i wr => ∃ (k : Nat) (ps : List Int) (torn : Bool), k ≤ len1 ∧ i = .int .i64 k ∧ TapeAt wr t ps torn ∧ TapeAt wr r ps torn w.heap.size ∧ Below w.heap.size w wr) (fun i _ => len1 - (intOf i).toNat)
  case atStart => exact ⟨0, zs, false, Nat.zero_le _, rfl, HT3.out, HR3.out, HB3.out⟩
  case round =>
  obtain ⟨k, ps, torn, hk, rfl, hT, hR, hB⟩ := hrel
  by_cases hlt : k < len1
  · rcases HI1.out with h0 | ⟨sb, so, rfl, hsb, hsc⟩
    · have := HL1.out; rw [h0] at this; simp at this; omega
    obtain ⟨hd, hn⟩ := hsc k (by rw [HL1.out]; exact hlt)
    have hsn := HS0.out (ss[k]'(by rw [HL1.out]; exact hlt)) (List.getElem_mem _)
    rw [List.getElem?_eq_getElem (by rw [HL1.out]; exact hlt)] at hd hn
    simp only [Option.getD_some] at hd hn
    obtain ⟨d, hdd⟩ : ∃ d, (ss[k]'(by rw [HL1.out]; exact hlt)).1 = d := ⟨_, rfl⟩
    obtain ⟨n, hnn⟩ : ∃ n, (ss[k]'(by rw [HL1.out]; exact hlt)).2 = n := ⟨_, rfl⟩
    rw [hdd] at hd hsn
    rw [hnn] at hn hsn
    obtain ⟨⟨d0, d1⟩, hn63⟩ := hsn
    have gd := (hB.cell (p := ⟨sb, so + k * 2, none⟩) hsb).trans hd
    have gn := (hB.cell (p := ⟨sb, so + k * 2 + 1, none⟩) hsb).trans hn
    have hn0 := hn
    have hn0 := hn
    have hn0 := hn
    have htr : t ≠ r := by omega
    have hwt : w.heap.size ≤ t := by omega
    have hwr : w.heap.size ≤ r := by omega
    have HT := Lib.hid hT
    have HR := Lib.hid hR
    have HB := Lib.hid hB
    clear hsc hd hn hdd hnn hT hR hB
    have hd3 : d % 3 = 0 ∨ d % 3 = 1 ∨ d % 3 = 2 := by omega
    rcases hd3 with hd3 | hd3 | hd3
    · have e0 : (d % 3 == 0) = true := by simp [hd3]
      have HD := Lib.hid hd3
      clear hd3
      go_wp2_with fail
      refine (tbyte_any t ps torn _ HT.out).mono ?_
      rintro e w5 ⟨rfl, hT5, hU5⟩
      have hR5 := HR.out.upM hU5 (Ne.symm htr) hwt HB.out.size
      have HB5 := Lib.hid (Up.below HB.out hU5 HB.out.size hwt)
      have HT5 := Lib.hid hT5
      have HR5 := Lib.hid hR5
      clear hT5 hU5 hR5 HT HR
      go_wp2_with fail
      refine (rbyte_any r ps torn _ _ hwr HR5.out).mono ?_
      rintro e w6 ⟨rfl, hR6, hU6⟩
      have hT6 := HT5.out.up hU6 (by omega)
      have HB6 := Lib.hid (Up.below HB5.out hU6 HB5.out.size hwr)
      go_wp2_with fail
      generalize stepT ps torn (byS ps) = st at hT6 hR6
      obtain ⟨ps', torn'⟩ := st
      have c1r := hR6.c1
      obtain ⟨ra, rc, s1r, _, _⟩ := hR6.s
      have hler := hR6.le
      have HT6 := Lib.hid hT6
      have HR6 := Lib.hid hR6
      dsimp only at c1r s1r hler HT6 HR6
      clear hT6 hR6 hU6
      have HEND : Hid (torn' = false → endB ps' torn' = decide (ps'.length = 0)) := fun h => by rw [h]; simp [endB]
      have HEND2 : Hid (torn' = true → endB ps' torn' = false) := fun h => by rw [h]; rfl
      obtain ⟨eb, heb⟩ : ∃ eb, endB ps' torn' = eb := ⟨_, rfl⟩
      have HCT := Lib.hid (fun q => torn_any t ps' torn' (w6.drewN q) (HT6.out.up (.of_nw (Nw.refl.drewN q)) HT6.out.lt))
      have HCE := Lib.hid (fun q => end_any t ps' torn' (w6.drewN q) (HT6.out.up (.of_nw (Nw.refl.drewN q)) HT6.out.lt))
      simp only [heb] at HEND HEND2 HCE
      obtain ⟨lr, hlr⟩ : ∃ lr, ps'.length = lr := ⟨_, rfl⟩
      rw [hlr] at s1r hler HEND
      clear heb hlr
      cases torn'
      · have hee := HEND.out rfl
        by_cases hl0 : lr = 0
        · have hd0 : ((lr : Int) == 0) = true := by simp [hl0]
          obtain rfl : eb = true := by rw [hee, hl0]; rfl
          clear hee hl0 HEND HEND2
          go_quiet ((first | (go_at_call 21; exact quiet_left (HCT.out _)) | (go_at_call 22; exact quiet_left (HCE.out _))))
          go_wp2_with fail
          go_roundw
          case rel => exact ⟨k + 1, ps', false, by omega, by go_num, HT6.out.up (.of_nw (Nw.refl.drewN _)) HT6.out.lt, HR6.out.upM (.of_nw (Nw.refl (w := w6).drewN _)) (u := w6.heap.size) (Nat.ne_of_lt HR6.out.lt) HB6.out.size HB6.out.size, below_drewN HB6.out _⟩
          case measure => simp [intOf]; omega
        · have hd0 : ((lr : Int) == 0) = false := by rw [beq_eq_false_iff_ne]; omega
          obtain rfl : eb = false := by rw [hee, decide_eq_false hl0]
          have hp0 : 0 < lr := by omega
          clear hee hl0 HEND HEND2
          go_quiet ((first | (go_at_call 21; exact quiet_left (HCT.out _)) | (go_at_call 22; exact quiet_left (HCE.out _))))
          go_wp2_with fail
          go_roundw
          case rel => exact ⟨k + 1, ps', false, by omega, by go_num, HT6.out.up (.of_nw (Nw.refl.drewN _)) HT6.out.lt, HR6.out.upM (.of_nw (Nw.refl (w := w6).drewN _)) (u := w6.heap.size) (Nat.ne_of_lt HR6.out.lt) HB6.out.size HB6.out.size, below_drewN HB6.out _⟩
          case measure => simp [intOf]; omega
      · obtain rfl : eb = false := HEND2.out rfl
        clear HEND HEND2
        go_quiet ((first | (go_at_call 21; exact quiet_left (HCT.out _)) | (go_at_call 22; exact quiet_left (HCE.out _))))
        go_wp2_with fail
        go_roundw
        case rel => exact ⟨k + 1, ps', true, by omega, by go_num, HT6.out.up (.of_nw (Nw.refl.drewN _)) HT6.out.lt, HR6.out.upM (.of_nw (Nw.refl (w := w6).drewN _)) (u := w6.heap.size) (Nat.ne_of_lt HR6.out.lt) HB6.out.size HB6.out.size, below_drewN HB6.out _⟩
        case measure => simp [intOf]; omega
    · have e0 : (d % 3 == 0) = false := by simp [hd3]
      have e1 : (d % 3 == 1) = true := by simp [hd3]
      have HD := Lib.hid hd3
      clear hd3
      go_wp2_with fail
      refine (tnumber_any t ps torn _ HT.out).mono ?_
      rintro e w5 ⟨rfl, hT5, hU5⟩
      have hR5 := HR.out.upM hU5 (Ne.symm htr) hwt HB.out.size
      have HB5 := Lib.hid (Up.below HB.out hU5 HB.out.size hwt)
      have HT5 := Lib.hid hT5
      have HR5 := Lib.hid hR5
      clear hT5 hU5 hR5 HT HR
      go_wp2_with fail
      refine (rnumber_any r ps torn _ _ hwr HR5.out).mono ?_
      rintro e w6 ⟨rfl, hR6, hU6⟩
      have hT6 := HT5.out.up hU6 (by omega)
      have HB6 := Lib.hid (Up.below HB5.out hU6 HB5.out.size hwr)
      go_wp2_with fail
      generalize stepT ps torn (numS ps) = st at hT6 hR6
      obtain ⟨ps', torn'⟩ := st
      have c1r := hR6.c1
      obtain ⟨ra, rc, s1r, _, _⟩ := hR6.s
      have hler := hR6.le
      have HT6 := Lib.hid hT6
      have HR6 := Lib.hid hR6
      dsimp only at c1r s1r hler HT6 HR6
      clear hT6 hR6 hU6
      have HEND : Hid (torn' = false → endB ps' torn' = decide (ps'.length = 0)) := fun h => by rw [h]; simp [endB]
      have HEND2 : Hid (torn' = true → endB ps' torn' = false) := fun h => by rw [h]; rfl
      obtain ⟨eb, heb⟩ : ∃ eb, endB ps' torn' = eb := ⟨_, rfl⟩
      have HCT := Lib.hid (fun q => torn_any t ps' torn' (w6.drewN q) (HT6.out.up (.of_nw (Nw.refl.drewN q)) HT6.out.lt))
      have HCE := Lib.hid (fun q => end_any t ps' torn' (w6.drewN q) (HT6.out.up (.of_nw (Nw.refl.drewN q)) HT6.out.lt))
      simp only [heb] at HEND HEND2 HCE
      obtain ⟨lr, hlr⟩ : ∃ lr, ps'.length = lr := ⟨_, rfl⟩
      rw [hlr] at s1r hler HEND
      clear heb hlr
      cases torn'
      · have hee := HEND.out rfl
        by_cases hl0 : lr = 0
        · have hd0 : ((lr : Int) == 0) = true := by simp [hl0]
          obtain rfl : eb = true := by rw [hee, hl0]; rfl
          clear hee hl0 HEND HEND2
          go_quiet ((first | (go_at_call 21; exact quiet_left (HCT.out _)) | (go_at_call 22; exact quiet_left (HCE.out _))))
          go_wp2_with fail
          go_roundw
          case rel => exact ⟨k + 1, ps', false, by omega, by go_num, HT6.out.up (.of_nw (Nw.refl.drewN _)) HT6.out.lt, HR6.out.upM (.of_nw (Nw.refl (w := w6).drewN _)) (u := w6.heap.size) (Nat.ne_of_lt HR6.out.lt) HB6.out.size HB6.out.size, below_drewN HB6.out _⟩
          case measure => simp [intOf]; omega
        · have hd0 : ((lr : Int) == 0) = false := by rw [beq_eq_false_iff_ne]; omega
          obtain rfl : eb = false := by rw [hee, decide_eq_false hl0]
          have hp0 : 0 < lr := by omega
          clear hee hl0 HEND HEND2
          go_quiet ((first | (go_at_call 21; exact quiet_left (HCT.out _)) | (go_at_call 22; exact quiet_left (HCE.out _))))
          go_wp2_with fail
          go_roundw
          case rel => exact ⟨k + 1, ps', false, by omega, by go_num, HT6.out.up (.of_nw (Nw.refl.drewN _)) HT6.out.lt, HR6.out.upM (.of_nw (Nw.refl (w := w6).drewN _)) (u := w6.heap.size) (Nat.ne_of_lt HR6.out.lt) HB6.out.size HB6.out.size, below_drewN HB6.out _⟩
          case measure => simp [intOf]; omega
      · obtain rfl : eb = false := HEND2.out rfl
        clear HEND HEND2
        go_quiet ((first | (go_at_call 21; exact quiet_left (HCT.out _)) | (go_at_call 22; exact quiet_left (HCE.out _))))
        go_wp2_with fail
        go_roundw
        case rel => exact ⟨k + 1, ps', true, by omega, by go_num, HT6.out.up (.of_nw (Nw.refl.drewN _)) HT6.out.lt, HR6.out.upM (.of_nw (Nw.refl (w := w6).drewN _)) (u := w6.heap.size) (Nat.ne_of_lt HR6.out.lt) HB6.out.size HB6.out.size, below_drewN HB6.out _⟩
        case measure => simp [intOf]; omega
    · have e0 : (d % 3 == 0) = false := by simp [hd3]
      have e1 : (d % 3 == 1) = false := by simp [hd3]
      have HD := Lib.hid hd3
      clear hd3
      go_wp2_with fail
      have HC1 := Lib.hid (ttext_any t ps torn n hn63 wr.drew (HT.out.up (.of_nw Nw.refl.drew) HT.out.lt))
      have HC2 : Hid (∀ w5, TapeAt w5 r ps torn w.heap.size → _) := fun w5 h => rtext_any r ps torn n hn63 w5 _ hwr h
      have HRD := Lib.hid (HR.out.upM (.of_nw (Nw.refl (w := wr).drew)) (u := wr.heap.size) (Nat.ne_of_lt HR.out.lt) HB.out.size HB.out.size)
      have HBD := Lib.hid HB.out.drew
      go_region_held3 (fun w' => w'.cell? ⟨sb, so + k * 2 + 1, none⟩ = some (.int .i64 n) ∧ Below w.heap.size w w')
        (first | (exact ⟨gn, HBD.out⟩) | (go_split_ands; exact ⟨(hB5.cell (p := ⟨sb, so + k * 2 + 1, none⟩) hsb).trans hn0, hB5⟩))
        ((first | (go_at_call 19; refine HC1.out.mono ?_; rintro e w5 ⟨rfl, hT5, hU5⟩; have hR5 := HRD.out.upM hU5 (Ne.symm htr) hwt HBD.out.size; have HB5 := Lib.hid (Up.below HBD.out hU5 HBD.out.size hwt); have hB5 := HB5.out; have HT5 := Lib.hid hT5; have HR5 := Lib.hid hR5; clear hT5 hU5 hR5) | (go_at_call 20; refine (HC2.out _ HR5.out).mono ?_; rintro e w6 ⟨rfl, hR6, hU6⟩; have hT6 := HT5.out.up hU6 (by omega); have HB6 := Lib.hid (Up.below HB5.out hU6 HB5.out.size hwr); have hB5 := HB6.out)))
      clear hB5
      go_wp2_with fail
      generalize stepT ps torn (txtS ps n) = st at hT6 hR6
      obtain ⟨ps', torn'⟩ := st
      have c1r := hR6.c1
      obtain ⟨ra, rc, s1r, _, _⟩ := hR6.s
      have hler := hR6.le
      have HT6 := Lib.hid hT6
      have HR6 := Lib.hid hR6
      dsimp only at c1r s1r hler HT6 HR6
      clear hT6 hR6 hU6
      have HEND : Hid (torn' = false → endB ps' torn' = decide (ps'.length = 0)) := fun h => by rw [h]; simp [endB]
      have HEND2 : Hid (torn' = true → endB ps' torn' = false) := fun h => by rw [h]; rfl
      obtain ⟨eb, heb⟩ : ∃ eb, endB ps' torn' = eb := ⟨_, rfl⟩
      have HCT := Lib.hid (fun q => torn_any t ps' torn' (w6.drewN q) (HT6.out.up (.of_nw (Nw.refl.drewN q)) HT6.out.lt))
      have HCE := Lib.hid (fun q => end_any t ps' torn' (w6.drewN q) (HT6.out.up (.of_nw (Nw.refl.drewN q)) HT6.out.lt))
      simp only [heb] at HEND HEND2 HCE
      obtain ⟨lr, hlr⟩ : ∃ lr, ps'.length = lr := ⟨_, rfl⟩
      rw [hlr] at s1r hler HEND
      clear heb hlr
      cases torn'
      · have hee := HEND.out rfl
        by_cases hl0 : lr = 0
        · have hd0 : ((lr : Int) == 0) = true := by simp [hl0]
          obtain rfl : eb = true := by rw [hee, hl0]; rfl
          clear hee hl0 HEND HEND2
          go_quiet ((first | (go_at_call 21; exact quiet_left (HCT.out _)) | (go_at_call 22; exact quiet_left (HCE.out _))))
          go_wp2_with fail
          go_roundw
          case rel => exact ⟨k + 1, ps', false, by omega, by go_num, HT6.out.up (.of_nw (Nw.refl.drewN _)) HT6.out.lt, HR6.out.upM (.of_nw (Nw.refl (w := w6).drewN _)) (u := w6.heap.size) (Nat.ne_of_lt HR6.out.lt) HB6.out.size HB6.out.size, below_drewN HB6.out _⟩
          case measure => simp [intOf]; omega
        · have hd0 : ((lr : Int) == 0) = false := by rw [beq_eq_false_iff_ne]; omega
          obtain rfl : eb = false := by rw [hee, decide_eq_false hl0]
          have hp0 : 0 < lr := by omega
          clear hee hl0 HEND HEND2
          go_quiet ((first | (go_at_call 21; exact quiet_left (HCT.out _)) | (go_at_call 22; exact quiet_left (HCE.out _))))
          go_wp2_with fail
          go_roundw
          case rel => exact ⟨k + 1, ps', false, by omega, by go_num, HT6.out.up (.of_nw (Nw.refl.drewN _)) HT6.out.lt, HR6.out.upM (.of_nw (Nw.refl (w := w6).drewN _)) (u := w6.heap.size) (Nat.ne_of_lt HR6.out.lt) HB6.out.size HB6.out.size, below_drewN HB6.out _⟩
          case measure => simp [intOf]; omega
      · obtain rfl : eb = false := HEND2.out rfl
        clear HEND HEND2
        go_quiet ((first | (go_at_call 21; exact quiet_left (HCT.out _)) | (go_at_call 22; exact quiet_left (HCE.out _))))
        go_wp2_with fail
        go_roundw
        case rel => exact ⟨k + 1, ps', true, by omega, by go_num, HT6.out.up (.of_nw (Nw.refl.drewN _)) HT6.out.lt, HR6.out.upM (.of_nw (Nw.refl (w := w6).drewN _)) (u := w6.heap.size) (Nat.ne_of_lt HR6.out.lt) HB6.out.size HB6.out.size, below_drewN HB6.out _⟩
        case measure => simp [intOf]; omega
  · have HB := Lib.hid hB
    obtain rfl : k = len1 := by omega
    clear hT hR hB
    go_wp2_with fail
    refine (works_any _).mono ?_
    rintro e w9 ⟨rfl, hN9⟩
    go_wp2_with fail
    go_ret
    exact ⟨rfl, HB.out.trans (hN9.b.mono HB.out.size)⟩

end Go.Proofs.Ytciagdechmkgjaa
