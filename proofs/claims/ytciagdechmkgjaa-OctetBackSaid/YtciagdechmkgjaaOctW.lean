/-
  THE WALK OF OctetWords.
-/
import Derived.Test.YtciagdechmkgjaaOctL
import Derived.Deep.RegionHeld3
import Derived.Deep.RegionWith
import Derived.IntWalk
namespace Go.Proofs.Ytciagdechmkgjaa
open Go.RowKit Go.Shelf
set_option linter.unusedVariables false

theorem valL_get (l : List Int) (h : ∀ x ∈ l, isByte x) (j : Nat) : valL l / (256 ^ j : Nat) % 256 = l[j]?.getD 0 := by
  induction l generalizing j with
  | nil => simp [valL]
  | cons c cs ih =>
    obtain ⟨c0, c1⟩ := h c (List.mem_cons_self)
    cases j with
    | zero => simp only [valL, Nat.pow_zero, List.getElem?_cons_zero, Option.getD_some]; omega
    | succ j =>
      rw [List.getElem?_cons_succ, ← ih (fun x hx => h x (List.mem_cons_of_mem _ hx)) j, valL, Nat.pow_succ, Nat.mul_comm, Int.natCast_mul, ← Int.ediv_ediv_of_nonneg (by decide)]
      have : (c + 256 * valL cs) / ((256 : Nat) : Int) = valL cs := by omega
      rw [this]
theorem unp_pack (zs : List Int) (hz : ∀ x ∈ zs, isByte x) (i : Nat) (h : i < 8 * qOf zs.length) : unpB (packL zs) i = zs[i]?.getD 0 := by
  unfold unpB
  have hq : i / 8 < qOf zs.length := by omega
  have e : (packL zs)[i / 8]?.getD 0 = valL ((zs.drop (8 * (i / 8))).take 8) := by
    unfold packL
    simp [hq, wordI]
  rw [e, valL_get _ (fun x hx => hz x (List.mem_of_mem_drop (List.mem_of_mem_take hx))), List.getElem?_take_of_lt (by omega), List.getElem?_drop]
  congr 2; omega
/-- The bytes of words, and noughts behind them. -/
def padL (zs : List Int) : List Int := zs ++ List.replicate (8 * qOf zs.length - zs.length) 0
theorem padL_length (zs : List Int) : (padL zs).length = 8 * qOf zs.length := by unfold padL qOf; simp; omega
theorem unpL_pack (zs : List Int) (hz : ∀ x ∈ zs, isByte x) (n : Nat) (h : n ≤ 8 * qOf zs.length) : unpL (packL zs) n = (padL zs).take n := by
  apply List.ext_getElem
  · rw [unpL_length, List.length_take, padL_length]; omega
  · intro i h1 h2
    rw [unpL_length] at h1
    simp only [unpL, List.getElem_map, List.getElem_range]
    rw [unp_pack zs hz i (by omega), List.getElem_take]
    unfold padL
    rw [List.getElem_append]
    by_cases hi : i < zs.length
    · rw [dif_pos hi]; simp [hi]
    · rw [dif_neg hi]; simp [List.getElem?_eq_none (Nat.le_of_not_lt hi)]
theorem packL_u64 (zs : List Int) (hz : ∀ x ∈ zs, isByte x) : ∀ x ∈ packL zs, isU64 x := by
  intro x hx
  simp only [packL, List.mem_map] at hx
  obtain ⟨k, _, rfl⟩ := hx
  have := wordI_u64 zs hz k
  exact ⟨this.1, by omega⟩
theorem pack_take (zs : List Int) (k : Nat) (hk : k ≤ zs.length) : packL (zs.take (k - k % 8)) = (packL zs).take (k / 8) := by
  have hl : (zs.take (k - k % 8)).length = 8 * (k / 8) := by rw [List.length_take]; omega
  apply List.ext_getElem
  · rw [packL_length, hl, List.length_take (i := k / 8), packL_length]; unfold qOf; omega
  · intro i h1 h2
    rw [packL_length, hl] at h1
    have h3 : i < k / 8 := by unfold qOf at h1; omega
    simp only [packL, List.getElem_map, List.getElem_range, List.getElem_take, wordI]
    congr 1
    rw [List.drop_take, List.take_take]
    congr 1
    omega

theorem pad_data (zs : List Int) : (strOfNums (padL zs)).data.toList = (strOfNums zs).data.toList ++ List.replicate (8 * qOf zs.length - zs.length) 0 := by
  rw [strOfNums_data, strOfNums_data]
  unfold padL
  rw [List.map_append, List.map_replicate]
  rfl
theorem pad_extract (zs : List Int) : ((strOfNums (padL zs)).extract 0 zs.length).toList = (strOfNums zs).toList := by
  rw [ByteArray.toList_eq, ByteArray.toList_eq, ByteArray.data_extract, Array.toList_extract, pad_data]
  have : ((strOfNums zs).data.toList).length = zs.length := by rw [strOfNums_data, List.length_map]
  simp only [List.extract, Nat.sub_zero, List.drop_zero]
  rw [← this, List.take_left]
theorem pad_zero (zs : List Int) (k : Nat) (h : k < (strOfNums (padL zs)).size) (hk : zs.length ≤ k) : ((strOfNums (padL zs))[k]'h).toNat = 0 := by
  have e : (strOfNums (padL zs))[k]'h = (strOfNums (padL zs)).data.toList[k]'h := rfl
  have e2 : (strOfNums (padL zs)).data.toList[k]? = some ((strOfNums (padL zs)).data.toList[k]'h) := List.getElem?_eq_getElem h
  rw [e]
  have hl : ((strOfNums zs).data.toList).length = zs.length := by rw [strOfNums_data, List.length_map]
  obtain ⟨y, hy⟩ : ∃ y, (strOfNums (padL zs)).data.toList[k]'h = y := ⟨_, rfl⟩
  rw [hy] at e2 ⊢
  rw [pad_data, List.getElem?_append_right (by omega), List.getElem?_replicate] at e2
  split at e2
  · cases e2; rfl
  · cases e2

theorem strB_extract (s : ByteArray) (k : Nat) : strB (s.extract 0 k) = (strB s).take k := by
  unfold strB
  rw [ByteArray.data_extract, Array.toList_extract]
  simp only [List.extract, Nat.sub_zero, List.drop_zero, List.map_take]
theorem OwnU.sliceN {w w' : World} {zs : List Int} {e : Ending} (h : OwnU w zs e w') {len : Nat} (hl : zs.length = len) : ∃ a c, e = .returned (.slice a len c) ∧ Ints w'.heap.size .u64 w' a zs ∧ Nw w w' ∧ len ≤ c := by
  subst hl; exact h.slice
theorem OwnR.sliceN {w w' : World} {zs : List Int} {e : Ending} (h : OwnR w zs e w') {len : Nat} (hl : zs.length = len) : ∃ a c, e = .returned (.slice a len c) ∧ Ints w'.heap.size .u8 w' a zs ∧ Nw w w' ∧ len ≤ c := by
  subst hl; exact h.slice

set_option maxRecDepth 100000 in
set_option maxHeartbeats 2000000 in
theorem words_same (a b : Option Addr) (len ca cb : Nat) (zs : List Int) (hl : zs.length = len) (hreach : len * 8 ≤ 140737488351232) (n₀ : Nat) (w : World) (hI : Ints n₀ .u64 w a zs) (hJ : Ints n₀ .u64 w b zs) :
    Calls Try.prog 13 #[.slice a len ca, .slice b len cb] w fun e w' => e = .returned (.bool true) ∧ Nw w w' := by
  have HL := Lib.hid hl
  have HI := Lib.hid hI
  have HJ := Lib.hid hJ
  clear hl hI hJ
  go_enter Try.func13, Try.ntmps13
  go_wp2_with fail
  go_loopw [5] (fun i wr => ∃ k : Nat, k ≤ len ∧ i = .int .i64 k ∧ ∃ m, wr = w.drewN m) (fun i _ => len - (intOf i).toNat)
  case atStart => exact ⟨0, Nat.zero_le _, rfl, 0, rfl⟩
  case round =>
  obtain ⟨k, hk, rfl, m, rfl⟩ := hrel
  by_cases hlt : k < len
  · obtain ⟨g1, o1, rfl, _, hc1⟩ := HI.out.at (j := k) (by rw [HL.out]; exact hlt)
    obtain ⟨g2, o2, rfl, _, hc2⟩ := HJ.out.at (j := k) (by rw [HL.out]; exact hlt)
    generalize zs[k]'(by rw [HL.out]; exact hlt) = x at hc1 hc2
    go_wp2_with fail
    go_quiet (fail)
    go_wp2_with fail
    go_roundw
    case rel => exact ⟨k + 1, by omega, by go_num, _, rfl⟩
    case measure => simp [intOf]; omega
  · obtain rfl : k = len := by omega
    go_wp2_with fail
    go_ret
    exact ⟨rfl, Nw.refl.drewN _⟩

set_option maxRecDepth 100000 in
set_option maxHeartbeats 4000000 in
theorem walk_words (s : ByteArray) (hsz : s.size ≤ 140737488351232) (n : Nat) (hn : n ≤ 65535) (w : World) :
    Calls Try.prog 4 #[.string s, .int .u16 (n : Int)] w fun e w' => e = .returned (.bool true) ∧ Below w.heap.size w w' := by
  have HPK := Lib.hid (pack_any s hsz)
  obtain ⟨zs, hzs⟩ : ∃ zs, strB s = zs := ⟨_, rfl⟩
  have hzb : ∀ x ∈ zs, isByte x := by rw [← hzs]; exact strB_byte s
  have hzl : zs.length = s.size := by rw [← hzs, strB_length]
  rw [hzs] at HPK
  have HZ := Lib.hid hzs
  have HZB := Lib.hid hzb
  by_cases hbig : 4096 < s.size
  · clear hzs hzb hzl
    go_enter Try.func4, Try.ntmps4
    go_wp2_with fail
    refine (works_any _).mono ?_
    rintro e w1 ⟨rfl, hN⟩
    go_wp2_with fail
    go_ret
    exact ⟨rfl, hN.b⟩
  · have HPL : Hid ((packL zs).length = qOf s.size) := by show _ = _; rw [packL_length, hzl]
    have HU8 := Lib.hid (unpL_pack zs hzb)
    obtain ⟨q, hq⟩ : ∃ q, qOf s.size = q := ⟨_, rfl⟩
    have hq1 : (s.size + 7) / 8 = q := by rw [← hq]; rfl
    have HQ := Lib.hid hq1
    have HQZ : Hid (qOf zs.length = q) := by show _ = _; rw [hzl, hq]
    have hq2 : q ≤ 600 := by omega
    rw [hq] at HPL
    have hne : ((q : Int) != ((s.size : Int) + 7) / 8) = false := by
      have : ((s.size : Int) + 7) / 8 = q := by omega
      rw [this]; simp
    have HZL := Lib.hid hzl
    clear hzs hzb hzl hq1 hq
    go_enter Try.func4, Try.ntmps4
    go_wp2_with fail
    refine (HPK.out _).mono ?_
    intro e w1 h1
    obtain ⟨a1, c1, rfl, hI1, hN1, hc1⟩ := h1.slice
    rw [HPL.out] at hc1 ⊢
    have HI1 := Lib.hid hI1
    have HN1 := Lib.hid hN1
    clear h1 hI1 hN1
    go_wp2_with fail
    rw [show (8 * (q : Int)) = ((8 * q : Nat) : Int) by omega]
    have HPU : Hid (∀ x ∈ packL zs, isU64 x) := packL_u64 zs HZB.out
    refine (unpack_yes a1 q c1 (packL zs) HPL.out HPU.out (by omega) (8 * q) (Nat.le_refl _) _ HI1.out).mono ?_
    rintro e w2 ⟨rfl, hN2⟩
    have HU : Hid (unpL (packL zs) (8 * q) = padL zs) := by
      show _ = _
      rw [HU8.out _ (by rw [HQZ.out]; exact Nat.le_refl _), List.take_of_length_le (by rw [padL_length, HQZ.out]; exact Nat.le_refl _)]
    rw [HU.out]
    obtain ⟨U, hU⟩ : ∃ U, strOfNums (padL zs) = U := ⟨_, rfl⟩
    have hUs : U.size = 8 * q := by rw [← hU, strOfNums_size, padL_length, HQZ.out]
    have HI2 := Lib.hid (hN2.ints HI1.out)
    have HN2 := Lib.hid (HN1.out.trans hN2)
    have HUU := Lib.hid hU
    rw [hU]
    clear hN2 HI1 HN1 hU
    have hsl : (s.size : Int) ≤ 8 * (q : Int) := by have := HQ.out; omega
    have hex : ((U.extract 0 s.size).toList == s.toList) = true := by
      rw [beq_iff_eq, ← HUU.out, ← HZL.out, pad_extract]
      rw [← HZ.out, strOf_strB]
    have HU0 : Hid (∀ k, ∀ h : k < U.size, s.size ≤ k → (U[k]'h).toNat = 0) := fun k h hk => by
      have := pad_zero zs k (by rw [HUU.out]; exact h) (by rw [HZL.out]; exact hk)
      simpa only [HUU.out] using this
    clear hne
    go_wp2_with fail
    clear hex
    go_loop [8] (fun i => ∃ k : Nat, s.size ≤ k ∧ k ≤ 8 * q ∧ i = .int .i64 k) (fun i => 8 * q - (intOf i).toNat)
    case atStart => exact ⟨s.size, Nat.le_refl _, by omega, rfl⟩
    case round =>
    obtain ⟨k, hk1, hk2, rfl⟩ := hrel
    rename_i hw
    by_cases hlt : k < 8 * q
    · have hkU : k < U.size := by omega
      have hz := HU0.out k hkU hk1
      go_wp2_with fail
      go_round
      case rel => exact ⟨k + 1, by omega, by omega, by go_num⟩
      case measure => simp [intOf]; omega
    · clear hk1
      go_wp2_with fail
      obtain ⟨kk, hkk⟩ : ∃ kk, n % (s.size + 1) = kk := ⟨_, rfl⟩
      have hkk1 : kk ≤ s.size := by have := Nat.mod_lt n (show 0 < s.size + 1 by omega); omega
      rw [show ((n : Int) % ((s.size : Int) + 1)) = (kk : Int) by rw [← hkk, Int.natCast_emod, Int.natCast_add]; rfl]
      refine (unpack_yes a1 q c1 (packL zs) HPL.out HPU.out (by omega) kk (by omega) _ HI2.out).mono ?_
      rintro e w3 ⟨rfl, hN3⟩
      obtain ⟨V, hV⟩ : ∃ V, strOfNums (unpL (packL zs) kk) = V := ⟨_, rfl⟩
      have HV := Lib.hid hV
      rw [hV]
      have HI3 := Lib.hid (hN3.ints HI2.out)
      have HN3 := Lib.hid (HN2.out.trans hN3)
      clear hV hN3 hkk HI2 HN2
      go_wp2_with fail
      refine (unpack_no a1 q c1 (by omega) _ (.inr (by omega)) _).mono ?_
      rintro e w4 ⟨rfl, rfl⟩
      go_wp2_with fail
      have hVV : V = s.extract 0 kk := by
        rw [← HV.out, HU8.out kk (by rw [HQZ.out]; omega)]
        have e1 : (padL zs).take kk = zs.take kk := by unfold padL; rw [List.take_append_of_le_length (by rw [HZL.out]; exact hkk1)]
        have e2 : strB (strOfNums (zs.take kk)) = strB (s.extract 0 kk) := by rw [strB_strOf _ (fun x hx => HZB.out x (List.mem_of_mem_take hx)), strB_extract, HZ.out]
        rw [e1, ← strOf_strB (strOfNums _), e2, strOf_strB]
      have hVs : (V.toList == (s.extract 0 kk).toList) = true := by rw [hVV]; exact beq_self_eq_true _
      clear hVV
      obtain ⟨m8, hm8⟩ : ∃ m8, kk % 8 = m8 := ⟨_, rfl⟩
      obtain ⟨d8, hd8⟩ : ∃ d8, kk / 8 = d8 := ⟨_, rfl⟩
      obtain ⟨e8, he8⟩ : ∃ e8, kk - m8 = e8 := ⟨_, rfl⟩
      have t1 : (kk : Int).tmod 8 = (m8 : Int) := by rw [← hm8, Int.tmod_eq_emod_of_nonneg (by omega)]; omega
      have t2 : (kk : Int).tdiv 8 = (d8 : Int) := by rw [← hd8, Int.tdiv_eq_ediv_of_nonneg (by omega)]; omega
      have t3 : (kk : Int) - (m8 : Int) = (e8 : Int) := by omega
      have t4 : IntKind.i64.wrap ((kk : Int) - (m8 : Int)) = (e8 : Int) := by rw [t3]; exact IntWalk.i64_in _ (by omega)
      have t5 : IntKind.i64.wrap (m8 : Int) = (m8 : Int) := IntWalk.i64_in _ (by omega)
      have t6 : IntKind.i64.wrap (d8 : Int) = (d8 : Int) := IntWalk.i64_in _ (by omega)
      have t7 : IntKind.i64.wrap (e8 : Int) = (e8 : Int) := IntWalk.i64_in _ (by omega)
      have t8 : (e8 : Int) ≤ (s.size : Int) := by omega
      have t9 : (0 : Int) ≤ (e8 : Int) := by omega
      have u1 : (d8 : Int) ≤ (c1 : Int) := by omega
      have u2 : (0 : Int) ≤ (d8 : Int) := by omega
      have u3 : d8 ≤ c1 := by omega
      have u4 : e8 ≤ s.size := by omega
      have H8 := Lib.hid (And.intro hm8 (And.intro hd8 he8))
      have HD8 := Lib.hid (show d8 * 8 ≤ 140737488351232 by omega)
      clear hm8 hd8 he8
      clear hlt hw
      have HPX : Hid (packL (strB (s.extract 0 e8)) = (packL zs).take d8) := by
        show _ = _
        obtain ⟨h1, h2, h3⟩ := H8.out
        rw [strB_extract, HZ.out, ← h3, ← h2, ← h1, pack_take zs kk (by rw [HZL.out]; exact hkk1)]
      have HYL : Hid (((packL zs).take d8).length = d8) := by
        show _ = _
        obtain ⟨h1, h2, h3⟩ := H8.out
        rw [List.length_take, HPL.out]; omega
      go_region_held3 (fun w' => Nw w w')
        (first | (exact HN3.out.drew) | (go_split_ands; exact Nw.trans (by assumption) kx))
        ((first | (go_at_call 11; refine (pack_any _ (by simp only [ByteArray.size_extract]; omega) _).mono ?_; intro e wP hP; rw [HPX.out] at hP; obtain ⟨aP, cP, rfl, hIP, kx, hcP⟩ := hP.sliceN HYL.out; have HIP := Lib.hid hIP; have HIQ := Lib.hid (Ints.take d8 (kx.ints HI3.out)); clear hP hIP) | (go_at_call 13; refine (words_same _ _ d8 _ _ _ HYL.out HD8.out _ _ HIP.out HIQ.out).mono ?_; rintro e wQ ⟨rfl, kx⟩) | (go_at_call 10; refine (works_any _).mono ?_; rintro e wR ⟨rfl, kx⟩)))
      obtain hlast : Nw w wR := by assumption
      clear kx
      go_wp2_with fail
      go_ret
      exact ⟨rfl, hlast.b⟩

end Go.Proofs.Ytciagdechmkgjaa
