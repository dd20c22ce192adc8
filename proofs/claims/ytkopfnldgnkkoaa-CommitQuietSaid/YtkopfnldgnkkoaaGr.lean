/-
  WRITES THAT ARE UNDER WAY: from steps to words; the law's does.
-/
import Derived.Test.YtkopfnldgnkkoaaGq
import Derived.Test.YtkopfnldgnkkoaaCmW
namespace Go.Proofs.Ytkopfnldgnkkoaa
open Go.RowKit Go.Shelf
set_option linter.unusedVariables false

theorem stores_take (L : List St) (j : Nat) : ∃ i, ((L.take j).flatMap fun s => storeOf s.o) = (L.flatMap fun s => storeOf s.o).take i := by
  refine ⟨((L.take j).flatMap fun s => storeOf s.o).length, ?_⟩
  have e : (L.flatMap fun s => storeOf s.o) = ((L.take j).flatMap fun s => storeOf s.o) ++ ((L.drop j).flatMap fun s => storeOf s.o) := by
    rw [← List.flatMap_append, List.take_append_drop]
  rw [e, List.take_left]
theorem row_fn (p : Wd → Int) (f : Nat → Wd) (N k : Nat) (hk : k < N) : fnL (rowL p f N) k = p (f k) := by
  unfold fnL rowL
  rw [List.getElem?_map, List.getElem?_range hk]; rfl
theorem seen_row (base : List Int) (N : Nat) (hN : base.length = N) (L : List St) : rowL (·.seen) (doAll L (filD base)) N = putsL base (L.flatMap fun s => storeOf s.o) := by
  refine list_eq (by rw [rowL_length, putsL_len, hN]) fun k hk => ?_
  rw [rowL_length] at hk
  rw [row_fn _ _ _ _ hk, putsL_fn _ _ _ (by omega), doAll_seen]
  exact wrote_congr _ _ _ _ rfl
theorem filD_clean (base : List Int) (N : Nat) : Clean N (filD base) := fun k hk => ⟨rfl, rfl, rfl, rfl⟩
theorem sure_row {f : Nat → Wd} {N : Nat} (h : Clean N f) : rowL (·.sure) f N = rowL (·.seen) f N := by
  refine list_eq (by rw [rowL_length, rowL_length]) fun k hk => ?_
  rw [rowL_length] at hk
  rw [row_fn _ _ _ _ hk, row_fn _ _ _ _ hk]
  exact (h k hk).s
theorem run_stores (area : Int) (o : List Wr) : ((beginL area o).flatMap fun s => storeOf s.o) = runW area o := begin_stores area o
/-- What is sure when all is done. -/
theorem run_area {base : List Int} {o : List Wr} (A : Nat) (hA : A < base.length) : fnL (putsL base (runW (A : Int) o)) A = 0 := by
  rw [putsL_fn _ _ _ hA]
  unfold runW
  rw [wrote_append, wrote_append, wrote_append]
  exact if_pos (by simp)
theorem run_else {base : List Int} {o : List Wr} (A k : Nat) (hn : o.length ≤ 96) (hk : k < base.length) (hA : k < A ∨ A + 208 ≤ k) : fnL (putsL base (runW (A : Int) o)) k = fnL (putsL base o) k := by
  rw [putsL_fn _ _ _ hk, putsL_fn _ _ _ hk]
  unfold runW
  rw [wrote_append, wrote_append, wrote_append]
  rw [wrote_out [((A : Int), 0)] _ k (fun x hx => by rw [List.mem_singleton.1 hx]; dsimp only; omega)]
  refine wrote_congr _ _ _ _ ?_
  rw [wrote_out [((A : Int), markV (recL o))] _ k (fun x hx => by rw [List.mem_singleton.1 hx]; dsimp only; omega)]
  refine wrote_out _ _ _ fun x hx => ?_
  obtain ⟨i, hi, rfl⟩ := own_mem hx
  rw [recL_len] at hi
  dsimp only
  omega
theorem fmtL_area {g : G} (hm : mayP g) (k : Nat) (hk : inAr g k) : fnL (fmtL g) k = 0 := by
  obtain ⟨g1, g2, g3, g4, g5, g6⟩ := hm
  obtain ⟨k1, k2⟩ := hk
  unfold fnL fmtL
  rw [List.getElem?_set_ne (by omega), List.getElem?_set_ne (by omega), List.getElem?_set_ne (by omega), List.getElem?_set_ne (by omega), List.getElem?_set_ne (by omega), List.getElem?_set_ne (by omega), List.getElem?_set_ne (by omega), List.getElem?_set_ne (by omega), List.getElem?_replicate]
  by_cases h : k < (atN g 7).toNat
  · rw [if_pos h]; rfl
  · rw [if_neg h]; rfl
theorem cntL_mono {p q : Nat → Bool} (h : ∀ z, p z = true → q z = true) : ∀ M, cntL p M ≤ cntL q M
  | 0 => Nat.le_refl _
  | M + 1 => by
    rw [cntL_succ, cntL_succ]
    have := cntL_mono h M
    by_cases e : p M = true
    · rw [if_pos e, if_pos (h M e)]; omega
    · rw [if_neg e]; split <;> omega
/-- Writes into two blocks have two lines at most. -/
theorem lines_two {b : Nat} {o : List Wr} (h : ∀ x ∈ o, 8 * (b : Int) ≤ x.1 ∧ x.1 < 8 * (b : Int) + 16) : (linesOf (lineL o)).length ≤ 2 := by
  rw [lines_len]
  refine Nat.le_trans (cntL_mono (q := fun z => decide (b ≤ z ∧ z < b + 2)) (fun z hz => ?_) _) ?_
  · rw [decide_eq_true_eq] at hz ⊢
    obtain ⟨x, hx, e⟩ := List.mem_map.1 hz
    have := h x hx
    omega
  · rw [cntL_iv _ b 2 (fun z => by rw [decide_eq_true_eq])]; omega
theorem want_sum (n m : Nat) : (wantL n m).sum = 0 + (2 + 2 * n) + ((2 + 2 * n + 7) / 8 + 1) + 3 + n + (m + 1) + 3 := by simp [wantL]; omega

theorem mark_u64 {o : List Wr} (hn : o.length ≤ 96) (hok : okW o) (hg : neg o = false) : u64 (markV (recL o)) := by
  have hs : u64 (sumOf (bodyL o)) := rec_u64 hn hok hg _ (by unfold recL; simp)
  have h2 := (Has.of_rec hn []).mark hs
  rw [List.append_nil] at h2
  rw [h2]
  generalize sumOf (bodyL o) = s
  unfold u64
  omega
theorem runW_u64 {g : G} {o : List Wr} (hm : mayW g o = true) (hok : okW o) (area : Int) : ∀ x ∈ runW area o, u64 x.2 := by
  have hn := (may_small hm).1
  have hg := may_neg hm
  intro x hx
  unfold runW at hx
  rcases List.mem_append.1 hx with hx | hx
  · rcases List.mem_append.1 hx with hx | hx
    · obtain ⟨i, hi, rfl⟩ := own_mem hx
      dsimp only
      rw [List.getElem?_eq_getElem hi]
      exact rec_u64 hn hok hg _ (List.getElem_mem hi)
    · rw [List.mem_singleton.1 hx]; exact mark_u64 hn hok hg
  · rcases List.mem_append.1 hx with hx | hx
    · exact (hok x hx).2
    · rw [List.mem_singleton.1 hx]; unfold u64; dsimp only; omega

/-- What does tells. -/
def DoesR (zs : List Int) (w : World) (e : Ending) (w' : World) : Prop :=
  ∃ b c, e = .returned (.slice (some ⟨b, 0, none⟩) zs.length c) ∧ zs.length ≤ c ∧ OutAt w' b zs ∧ Nw w w' ∧ w.heap.size ≤ b
set_option maxRecDepth 100000 in
set_option maxHeartbeats 4000000 in
theorem does_any (a : Option Addr) (N c n₀ : Nat) (zs : List Int) (hx : zs.length = N) (h0 : 0 < N) (hN : N ≤ 1000000) (la : Option Addr) (n lc m₀ : Nat) (o : List Wr) (ho : o.length = n) (hn : n ≤ 1000000) (hin : ∀ x ∈ o, 0 ≤ x.1 ∧ x.1 < (N : Int)) (w : World) (hn₀ : n₀ ≤ w.heap.size) (hI : Ints n₀ .u64 w a zs) (hm₀ : m₀ ≤ w.heap.size) (hP : Pairs .i64 .u64 m₀ w la o) :
    Calls Try.prog 25 #[.slice a N c, .slice la n lc] w (DoesR (putsL zs o) w) := by
  obtain ⟨i0, hi, hz0, hz1, hz2⟩ := info_parts8 info_u64
  have HX := Lib.hid hx
  have HII := Lib.hid (hI.mono hn₀)
  have HPP := Lib.hid (hP.mono hm₀)
  have HON := Lib.hid ho
  have HIN := Lib.hid hin
  clear hI hP hx ho hin
  go_enter Try.func25, Try.ntmps25
  go_upto_region 2 with (at_builtin; refine wpList_append_ints _ rfl _ _ 30 rfl w.heap.size 39 i0 (.int .u64 0) 8 Try.underlying30 hi hz0 hz1 hz2 rfl _ 0 [] rfl (World.ownsRow_made _ #[] 0 (Nat.le_refl _) (Nat.zero_le _) (by simp)) a N c .u64 zs w.heap.size rfl HX.out (HII.out.below ((Below.refl _ _).alloc (Nat.le_refl _) _)) (by unfold maxLen; omega) (by omega) (by simp) ?_; intro v5 W hown hgrow; have hb5 : Below w.heap.size w W := ((Below.refl _ w).alloc (Nat.le_refl _) _).grown hgrow (by simp) (fun k e => by cases e; exact Nat.le_refl _); clear hgrow; simp only [Nat.zero_add, List.nil_append] at hown)
  have hou : OwnU w zs (.returned v5) W := ⟨v5, rfl, by rw [HX.out]; exact hown, ⟨hb5⟩⟩
  obtain ⟨b, oc, he, hO, hnw, hoc, hbw⟩ := hou.out (by rw [HX.out]; exact h0)
  rw [HX.out] at he hoc
  obtain rfl : v5 = .slice (some ⟨b, 0, none⟩) N oc := by simpa using he
  have HO := Lib.hid hO
  have HNW := Lib.hid hnw
  have HBW := Lib.hid hbw
  clear hown hb5 hou he hO hnw hbw hi hz0 hz1 hz2 HII
  go_wp2_with fail
  go_loopw [6] (fun i wq => ∃ k : Nat, k ≤ n ∧ i = .int .i64 k ∧ OutAt wq b (putsL zs (o.take k)) ∧ Up b W wq) (fun i _ => n - (intOf i).toNat)
  case atStart => exact ⟨0, Nat.zero_le _, rfl, HO.out, Up.refl _ _⟩
  case round =>
    clear HO
    obtain ⟨k, hk, rfl, hO, hU⟩ := hrel
    have HO := Lib.hid hO
    have HU := Lib.hid hU
    clear hO hU
    by_cases hkn : k < n
    · have hko : k < o.length := by rw [HON.out]; exact hkn
      obtain ⟨pb, po, rfl, f1, f2⟩ := Pairs.at (pairs_upo HPP.out (O := fun _ => False) (.of_nw HNW.out) (fun _ _ h => h)) hko
      have hpb : pb ≠ b := by
        rcases HPP.out with h | ⟨b', o', e, hb', _⟩
        · rw [h] at hko; simp at hko
        · cases e
          have := HBW.out
          omega
      have p1 := HU.out.cell f1 hpb
      have p2 := HU.out.cell f2 hpb
      have HPT := Lib.hid (putsL_take (zs := zs) hko)
      have hx := HIN.out _ (List.getElem_mem hko)
      obtain ⟨x, hxe⟩ : ∃ x, o[k] = x := ⟨_, rfl⟩
      rw [hxe] at p1 p2 HPT hx
      obtain ⟨x1, x2⟩ := x
      dsimp only at p1 p2 HPT hx
      obtain ⟨q, hq⟩ : ∃ q : Nat, (q : Int) = x1 := ⟨x1.toNat, by omega⟩
      subst hq
      have hqi : (q : Int) < (N : Int) := by omega
      have hq0 : 0 ≤ (q : Int) := by omega
      have hcq : wr.cell? ⟨b, q, none⟩ = some (.int .u64 ((putsL zs (o.take k))[q]?.getD 0)) := HO.out.at_ q (by rw [putsL_len, HX.out]; omega)
      have hfr : wr.frozen? ⟨b, q, none⟩ = false := HO.out.ty.frozen q
      have HS := Lib.hid ((HO.out.set q x2).nw Nw.refl.drew)
      have HUd := Lib.hid ((HU.out.set q (.int .u64 x2)).nw Nw.refl.drew)
      have E1 := Lib.hid (show (wr.setCell ⟨b, q, none⟩ (.int .u64 x2)).cell? ⟨pb, po + k * 2, none⟩ = some (.int .i64 q) by rw [cell_far _ _ _ _ _ hpb]; exact p1)
      have E2 := Lib.hid (show (wr.setCell ⟨b, q, none⟩ (.int .u64 x2)).cell? ⟨pb, po + k * 2 + 1, none⟩ = some (.int .u64 x2) by rw [cell_far _ _ _ _ _ hpb]; exact p2)
      have hjn : (k : Int) < (n : Int) := by omega
      have hj0 : (0 : Int) ≤ (k : Int) := by omega
      generalize (putsL zs (o.take k))[q]?.getD 0 = y at hcq
      clear f1 f2 hxe hx
      go_wp2_with fail
      go_region_held3 (fun w' => w'.cell? ⟨pb, po + k * 2, none⟩ = some (.int .i64 q) ∧ w'.cell? ⟨pb, po + k * 2 + 1, none⟩ = some (.int .u64 x2))
        (first | (exact ⟨p1, p2⟩) | (exact ⟨E1.out, E2.out⟩))
        (fail)
      generalize (wr.setCell ⟨b, q, none⟩ (.int .u64 x2)).drew = w7 at *
      clear hcq hfr p1 p2 hpb hqi hq0 hjn hj0
      go_wp2_with fail
      go_roundw
      case rel => exact ⟨k + 1, by omega, by go_num, by rw [HPT.out]; exact HS.out, HUd.out⟩
      case measure => simp [intOf]; omega
    · obtain rfl : k = n := by omega
      rw [List.take_of_length_le (by rw [HON.out]; exact Nat.le_refl _)] at HO
      go_wp2_with fail
      go_ret
      exact ⟨b, oc, by rw [putsL_len, HX.out]; rfl, by rw [putsL_len, HX.out]; exact hoc, HO.out, ⟨Up.below HNW.out.b HU.out HNW.out.b.size HBW.out⟩, HBW.out⟩
end Go.Proofs.Ytkopfnldgnkkoaa
