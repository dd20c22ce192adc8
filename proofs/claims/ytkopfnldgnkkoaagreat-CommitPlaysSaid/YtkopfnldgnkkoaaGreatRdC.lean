import Derived.RangeFuncBox
import Derived.Test.YtkopfnldgnkkoaaGreatRcA
import Derived.Test.YtkopfnldgnkkoaaGreatSumR
import Derived.Test.YtkopfnldgnkkoaaGreatOpen
import Derived.Deep.RegionHeld3
import Derived.Deep.RegionHeldLaw

/-
  THE WALKS OF record.Words$1, Words and grommetref08.Words.
-/
namespace Go.Proofs.YtkopfnldgnkkoaaGreat
open Go.RowKit Go.Shelf
set_option linter.unusedVariables false

theorem own_slice {w : World} {base : Nat} {e : TypeId} {size : Nat} {v : Value} {n : Nat} {xs : List Value} (h : w.ownsRow base e size v n xs) : ∃ a c, v = .slice a n c := by
  rcases h.2 with ⟨h1, h2⟩ | ⟨g, cap, cur, hv, _⟩
  · exact ⟨none, 0, by rw [h1, h2]⟩
  · exact ⟨_, _, hv⟩
theorem own_fresh {w : World} {base : Nat} {e : TypeId} {size : Nat} {a : Option Addr} {m c n : Nat} {xs : List Value} (h : w.ownsRow base e size (.slice a m c) n xs) : ∀ p, a = some p → base ≤ p.block := by
  intro p hp
  rcases h.2 with ⟨h1, _⟩ | ⟨g, cap, cur, hv, hg, _⟩
  · cases h1; cases hp
  · cases hv; cases hp; exact hg
theorem info_u64 : (Tryz.prog.info? 44).map (fun i => (i.zero, i.size, i.bytes)) = some (some (.int .u64 0), 1, 8) := by kernel_rfl

/-- What a box tells that holds a row of words of its own, all of it new since w. -/
structure Held (w : World) (B : Nat) (W : World) (xs : List Int) : Prop where
  b : Below w.heap.size w W
  hB : w.heap.size ≤ B
  row : ∃ v, Boxed W B 33 v ∧ W.ownsRow w.heap.size 44 1 v xs.length (xs.map (.int .u64))
theorem Held.nw {w W W' : World} {B : Nat} {xs : List Int} (h : Held w B W xs) (k : Nw W W') : Held w B W' xs := by
  obtain ⟨v, h1, h2⟩ := h.row
  exact ⟨h.b.trans (k.b.mono h.b.size), h.hB, v, (k.b.block B h1.lt).trans h1, own_below k.b h2⟩

set_option maxHeartbeats 1000000 in
theorem put_any (w : World) (B : Nat) (xs : List Int) (W : World) (h : Held w B W xs) (a : Option Addr) (cap n₀ : Nat) (zs : List Int) (hI : Ints n₀ .u64 W a zs) (hreach : (xs.length + zs.length) * 8 ≤ 140737488351232) :
    Calls Tryz.prog 93 #[.slice a zs.length cap, .pointer (some ⟨B, 0, none⟩)] W fun e w' => e = .returned (.tuple #[]) ∧ Held w B w' (xs ++ zs) := by
  obtain ⟨i0, hi, hz0, hz1, hz2⟩ := info_parts8 info_u64
  obtain ⟨hb, hB, v, hv, hrow⟩ := h
  have hsz := hb.size
  obtain ⟨n, hn⟩ : ∃ n, zs.length = n := ⟨_, rfl⟩
  rw [hn] at hreach ⊢
  have hc := hv.cell
  have hf := hv.frozen
  go_enter Tryz.func93, Tryz.ntmps93
  go_wp2_with (first
    | (at_builtin; refine wpList_append_ints _ rfl _ _ 33 rfl w.heap.size 44 i0 (.int .u64 0) 8 Tryz.underlying33 hi hz0 hz1 hz2 rfl v xs.length _ rfl hrow a n cap .u64 zs n₀ rfl hn hI (by unfold maxLen; omega) (by omega) hsz ?_; intro v' w1 hown1 hgrow1; obtain ⟨va, vc, rfl⟩ := own_slice hown1; have b1 := hv.kept hgrow1 (hv.not_row (by decide) hrow); have hc1 := b1.cell; have hf1 := b1.frozen)
    | fail)
  go_end0
  have hnr := hv.not_row (by decide) hrow
  have hrb : ∀ k, v.ownBlock = some k → w.heap.size ≤ k := fun k e => (hrow.lt k e).1
  refine ⟨rfl, (hb.grown hgrow1 hsz hrb).setCell (p := ⟨B, 0, none⟩) hB _, hB, _, b1.set _, ?_⟩
  have := hown1.kept (grownBy_setCell' w1 B (.slice va (xs.length + n) vc)) (.inr (b1.not_row (by decide) hown1).symm)
  rw [List.length_append, hn, List.map_append]
  exact this

theorem results_box_tmp {P : Program} {fn : Func} {p t : Tmp} {ty e : TypeId} (h : fn.results = #[.cell p ty, .tmp t]) (tmps : Array Value) (w : World) (g : Nat) (v : Value)
    (hp : tmps.getD p undef = .pointer (some ⟨g, 0, none⟩)) (hc : w.cell? ⟨g, 0, none⟩ = some v) (hu : P.underlying ty = some (.slice e)) :
    (results fn tmps).run P w = .ok (.tuple #[v, tmps.getD t undef]) w := by
  have hp' : tmps[p]?.getD undef = .pointer (some ⟨g, 0, none⟩) := by simpa using hp
  have hl : (loadVar ty ⟨g, 0, none⟩).run P w = .ok v w := by
    simp [loadVar, isAgg, go_sem, run_underlying hu, hc]
  simp [results, h, hp', asAddr, hl]

theorem Ints.two (k : IntKind) (w : World) (x y : Int) (t : TypeId) : Ints (w.heap.size + 1) k (w.alloc (.cells #[.int k x, .int k y] t)) (some ⟨w.heap.size, 0, none⟩) [x, y] :=
  .inr ⟨_, 0, rfl, Nat.lt_succ_self _, fun j hj => by
    simp at hj
    match j, hj with
    | 0, _ => rw [Nat.add_zero, World.cell?_alloc_new]; rfl
    | 1, _ => rw [World.cell?_alloc_new]; rfl⟩
theorem neg_snoc (l : List Wr) (x : Wr) : neg (l ++ [x]) = (neg l || decide (x.1 < 0)) := by simp [neg]
theorem neg_take {l : List Wr} {k : Nat} (h : neg (l.take k) = true) : neg l = true := by
  unfold neg at h ⊢
  rw [List.any_eq_true] at h ⊢
  obtain ⟨x, hx, h⟩ := h
  exact ⟨x, List.mem_of_mem_take hx, h⟩
/-- What Words tells. -/
def WordsR (w : World) (l : List Wr) (e : Ending) (w' : World) : Prop :=
  ∃ a cap, e = .returned (.tuple #[.slice a (wordsL l).length cap, .int .i64 (wordsE l)]) ∧ (wordsL l).length ≤ cap ∧ Ints w'.heap.size .u64 w' a (wordsL l) ∧ Nw w w' ∧ ∀ p, a = some p → w.heap.size ≤ p.block

set_option maxHeartbeats 2000000 in
theorem words_any (a : Option Addr) (cap n₀ : Nat) (l : List Wr) (hu : ∀ x ∈ l, x.1 < 9223372036854775808 ∧ u64 x.2) (w : World) (hn₀ : n₀ ≤ w.heap.size) (hI : Pairs .i64 .u64 n₀ w a l) (hreach : l.length ≤ 9223372036854775807) :
    Calls Tryz.prog 54 #[.slice a l.length cap] w (WordsR w l) := by
  obtain ⟨n, hn⟩ : ∃ n, l.length = n := ⟨_, rfl⟩
  have HN := Lib.hid hn
  rw [hn] at hreach ⊢
  by_cases h96 : 96 < n
  · have HL := Lib.hid (show wordsL l = [] from if_pos (.inl (by omega)))
    have HE := Lib.hid (show wordsE l = 5 from if_pos (by omega))
    clear hI hu
    go_enter Tryz.func54, Tryz.ntmps54
    go_wp2_with fail
    refine bodyPost_ret (results_box_tmp rfl _ _ w.heap.size _ rfl (Boxed.new w 33 (.slice none 0 0)).cell Tryz.underlying33) rfl ?_
    refine ⟨none, 0, by rw [HL.out, HE.out]; rfl, by rw [HL.out]; exact Nat.le_refl _, .inl HL.out, Nw.refl.alloc _, fun p hp => by cases hp⟩
  have hH0 : Held w w.heap.size ((w.alloc (.cells #[.slice none 0 0] 33)).alloc (.cells #[.int .u64 (n : Int)] 44)) [] :=
    ⟨(Nw.refl.alloc _ |>.alloc _).b, Nat.le_refl _, _, (Boxed.new w 33 (.slice none 0 0)).alloc _, rfl, .inl ⟨rfl, rfl⟩⟩
  have hI1 := Ints.one .u64 (w.alloc (.cells #[.slice none 0 0] 33)) (n : Int) 44
  simp only [World.size_alloc] at hI1
  have HU := Lib.hid hu
  clear hu
  go_enter Tryz.func54, Tryz.ntmps54
  go_wp2_with fail
  refine (put_any w w.heap.size [] _ hH0 (some ⟨w.heap.size + 1, 0, none⟩) 1 _ [(n : Int)] hI1 (by simp)).mono ?_
  rintro e w1 ⟨rfl, hH⟩
  have hH1 : Held w w.heap.size w1 (bodyP n (l.take 0)) := hH
  clear hH hH0 hI1
  go_wp2_with fail
  go_loopw [19] (fun i wr => ∃ k : Nat, k ≤ n ∧ i = .int .i64 k ∧ neg (l.take k) = false ∧ Held w w.heap.size wr (bodyP n (l.take k))) (fun i _ => n - (intOf i).toNat)
  case atStart => exact ⟨0, Nat.zero_le _, rfl, rfl, hH1⟩
  case round =>
    obtain ⟨k, hk, rfl, hng, hHr⟩ := hrel
    clear hH1
    by_cases hlt : k < n
    · rcases hI with e | ⟨b, off, rfl, hb, hcs⟩
      · rw [e] at hn; simp at hn; omega
      have hlk : k < l.length := by omega
      obtain ⟨c1, c2⟩ := hcs k hlk
      obtain ⟨x, hx⟩ : ∃ x, l[k]?.getD (0, 0) = x := ⟨_, rfl⟩
      have hxl : l[k] = x := by rw [← hx]; simp [hlk]
      have hux := HU.out x (by rw [← hxl]; exact List.getElem_mem _)
      have htk : l.take (k + 1) = l.take k ++ [x] := by rw [List.take_succ_eq_append_getElem hlk, hxl]
      rw [hx] at c1 c2
      have c1r : wr.cell? ⟨b, off + k * 2, none⟩ = some (.int .i64 x.1) := (hHr.b.cell (p := ⟨b, off + k * 2, none⟩) (Nat.lt_of_lt_of_le hb hn₀)).trans c1
      have c2r : wr.cell? ⟨b, off + k * 2 + 1, none⟩ = some (.int .u64 x.2) := (hHr.b.cell (p := ⟨b, off + k * 2 + 1, none⟩) (Nat.lt_of_lt_of_le hb hn₀)).trans c2
      have HT := Lib.hid htk
      have HNG := Lib.hid hng
      obtain ⟨x1, x2⟩ := x
      dsimp only at c1r c2r hux
      clear hcs c1 c2 hx hxl htk hng
      have hHa := hHr.nw (Nw.refl.alloc (.cells #[.int .i64 x1, .int .u64 x2] 91))
      by_cases hneg : x1 < 0
      · obtain ⟨v, hv, hrow⟩ := hHa.row
        have hc := hv.cell
        have hf := hv.frozen
        have HG := Lib.hid (show neg l = true from neg_take (k := k + 1) (by rw [HT.out, neg_snoc]; simp [hneg]))
        have HL := Lib.hid (show wordsL l = [] from if_pos (.inr HG.out))
        have HE := Lib.hid (show wordsE l = 1 from (if_neg (by omega)).trans (if_pos HG.out))
        go_wp2_with fail
        refine bodyPost_ret (results_box_tmp rfl _ _ w.heap.size _ rfl (hv.set (.slice none 0 0)).cell Tryz.underlying33) rfl ?_
        exact ⟨none, 0, by rw [HL.out, HE.out]; rfl, by rw [HL.out]; exact Nat.le_refl _, .inl HL.out, ⟨hHa.b.setCell (p := ⟨w.heap.size, 0, none⟩) (Nat.le_refl _) _⟩, fun p hp => by cases hp⟩
      · have hHb := hHa.nw (Nw.refl.alloc (.cells #[.int .u64 x1, .int .u64 x2] 44))
        have hI2 := Ints.two .u64 (wr.alloc (.cells #[.int .i64 x1, .int .u64 x2] 91)) x1 x2 44
        simp only [World.size_alloc] at hI2
        have HHa := Lib.hid hHa
        clear hHa
        go_wp2_with fail
        refine (put_any w w.heap.size _ _ hHb (some ⟨wr.heap.size + 1, 0, none⟩) 2 _ [x1, x2] hI2 (by rw [bodyP_len]; simp; omega)).mono ?_
        rintro e w2 ⟨rfl, hH2⟩
        go_wp2_with fail
        go_roundw
        case rel => exact ⟨k + 1, by omega, by go_num, by rw [HT.out, neg_snoc, HNG.out]; simp; omega, by rw [HT.out, bodyP_snoc]; exact hH2⟩
        case measure => simp [intOf]; omega
    · obtain rfl : k = n := by omega
      have htk : l.take k = l := List.take_of_length_le (by omega)
      rw [htk] at hHr hng
      have hbl : bodyP k l = bodyL l := by unfold bodyL; rw [hn]
      rw [hbl] at hHr
      have hlen : (bodyL l).length = 1 + 2 * k := by rw [← hbl, bodyP_len, hn]
      have HL := Lib.hid (show wordsL l = recL l from if_neg (by rintro (h | h); omega; rw [hng] at h; cases h))
      have HE := Lib.hid (show wordsE l = 0 from (if_neg (by omega)).trans (if_neg (by rw [hng]; decide)))
      have HLen := Lib.hid (show (wordsL l).length = 2 + 2 * k from by rw [HL.out, recL_len, hn])
      obtain ⟨v, hv, hrow⟩ := hHr.row
      obtain ⟨va, vc, rfl, _, hIv⟩ := Ints.of_owns hrow
      rw [hlen] at hv
      have hc := hv.cell
      clear htk hbl hrow hng
      go_wp2_with fail
      refine (sum_of_len va (1 + 2 * k) vc (bodyL l) hlen (by omega) wr hIv).mono ?_
      rintro e w2 ⟨rfl, hb2⟩
      have hHs := (hHr.nw ⟨hb2⟩).nw (Nw.refl.alloc (.cells #[.int .u64 (sumOf (bodyL l))] 44))
      have hI3 := Ints.one .u64 w2 (sumOf (bodyL l)) 44
      clear hv hIv hc hHr
      go_wp2_with fail
      refine (put_any w w.heap.size _ _ hHs (some ⟨w2.heap.size, 0, none⟩) 1 _ [sumOf (bodyL l)] hI3 (by rw [hlen]; simp; omega)).mono ?_
      rintro e w3 ⟨rfl, hH3⟩
      obtain ⟨v, hv, hrow⟩ := hH3.row
      obtain ⟨va, vc, rfl⟩ := own_slice hrow
      have hcap := own_cap hrow
      have hkp := hrow.kept (grownBy_setCell' w3 w.heap.size (.slice va (bodyL l ++ [sumOf (bodyL l)]).length vc)) (.inr (hv.not_row (by decide) hrow).symm)
      rw [show (bodyL l ++ [sumOf (bodyL l)]).length = 2 + 2 * k by rw [List.length_append, hlen]; simp; omega] at hv hcap hkp
      obtain ⟨va', vc', he, _, hIv⟩ := Ints.of_owns hkp
      simp only [Value.slice.injEq, true_and] at he
      obtain ⟨rfl, rfl⟩ := he
      have hc := hv.cell
      have hf := hv.frozen
      have HIv := Lib.hid hIv
      have HFR := Lib.hid (own_fresh hkp)
      clear hrow hkp hIv
      go_wp2_with fail
      refine bodyPost_ret (results_box_tmp rfl _ _ w.heap.size _ rfl (hv.set (.slice va (2 + 2 * k) vc)).cell Tryz.underlying33) rfl ?_
      exact ⟨va, vc, by rw [HLen.out, HE.out]; rfl, by rw [HLen.out]; exact hcap, by rw [HL.out]; exact HIv.out, ⟨hH3.b.setCell (p := ⟨w.heap.size, 0, none⟩) (Nat.le_refl _) _⟩, HFR.out⟩

end Go.Proofs.YtkopfnldgnkkoaaGreat

/-
  ROWS OF WORDS OF ONE'S OWN.
-/
namespace Go.Proofs.YtkopfnldgnkkoaaGreat
open Go.RowKit Go.Shelf
set_option linter.unusedVariables false

/-- What a call that makes a row of words of its own tells. -/
def OwnU (w : World) (zs : List Int) (e : Ending) (w' : World) : Prop :=
  ∃ v, e = .returned v ∧ w'.ownsRow w.heap.size 44 1 v zs.length (zs.map (.int .u64)) ∧ Nw w w'
theorem OwnU.slice {w w' : World} {zs : List Int} {e : Ending} (h : OwnU w zs e w') : ∃ a c, e = .returned (.slice a zs.length c) ∧ Ints w'.heap.size .u64 w' a zs ∧ Nw w w' ∧ zs.length ≤ c := by
  obtain ⟨v, rfl, ho, hn⟩ := h
  obtain ⟨a, c, rfl, _, hI⟩ := Ints.of_owns ho
  exact ⟨a, c, rfl, hI, hn, own_cap ho⟩
end Go.Proofs.YtkopfnldgnkkoaaGreat

/-
  LAWS FOR WALKS: takes, new cells, new rows of one.
-/
namespace Go.Proofs.YtkopfnldgnkkoaaGreat
open Go.RowKit Go.Shelf
set_option linter.unusedVariables false

theorem takeD {P : Program} {ops : Array Oper} {Q : Exit → Act → World → Prop} {md : Region.Mode} {S : World → Prop} {i : Nat} {oi : Oper} {v : Value} {fuel : Nat} {listed : Array Bool} {a : Act} {w : World} (d : Nat) (hi : ops[i]? = some oi) (hd : oi.dst = some d)
    (hs : Region.noSelect ops = true) (hf : Region.free md ops listed i = true) (hr : (Region.ready md ops listed).contains i = true)
    (hQ : ∀ c a w, Q (.panic c) (a.put oi.dst v) w → Q (.panic c) a w) (hy : YieldsIf P ops S oi v a) (hS : S w)
    (h : wpAnyH P md ops Q S fuel (listed.setIfInBounds i true) { a with tmps := a.tmps.setIfInBounds d v } w) : wpAnyH P md ops Q S (fuel + 1) listed a w := by
  refine wpAnyH_take hi hs hf hr hQ hy hS ?_
  rw [hd]; exact h


theorem ready_if {c : Prop} [Decidable c] {A B : Prop} (hc : c) (h : A) : if c then A else B := by rw [if_pos hc]; exact h
theorem two_cells (W : World) (x y : Value) (t : TypeId) : ∀ j u, [x, y][j]? = some u → (W.alloc (.cells #[x, y] t)).cell? (Addr.add ⟨W.heap.size, 0, none⟩ j) = some u := by
  intro j u h
  rw [Addr.add_lit, World.cell?_alloc_new]
  match j, h with
  | 0, h => exact h
  | 1, h => exact h
theorem own_one (w : World) (k : IntKind) (x : Int) (t : TypeId) : (w.alloc (.cells #[.int k x] t)).ownsRow w.heap.size t 1 (.slice (some ⟨w.heap.size, 0, none⟩) 1 1) 1 [.int k x] :=
  ⟨by simp, .inr ⟨w.heap.size, 1, #[.int k x], rfl, Nat.le_refl _, heap_alloc_new w _, Nat.le_refl _, by decide, rfl, by simp⟩⟩

end Go.Proofs.YtkopfnldgnkkoaaGreat
