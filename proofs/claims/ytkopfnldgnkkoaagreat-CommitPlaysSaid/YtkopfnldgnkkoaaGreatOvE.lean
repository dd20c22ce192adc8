import Derived.Test.YtkopfnldgnkkoaaGreatCmI
import Derived.Test.YtkopfnldgnkkoaaGreatCmP
import Derived.Laws.IdiomCopy

/-
  OVER: plain: what is committed, done; a row of words of one's own that is written into; clear.
-/
namespace Go.Proofs.YtkopfnldgnkkoaaGreat
open Go.RowKit Go.Shelf
set_option linter.unusedVariables false

/-- The area of a worker. -/
def areaL (ws : List Int) (k : Nat) : List Int := (ws.drop (264 + 208 * k)).take 208
/-- Is what stands in an area committed? -/
def comOk (g : G) (ar : List Int) : Bool := readOk g (ar.drop 8) && (hd ar != 0) && (hd ar == markV (ar.drop 8))
def comL (g : G) (ar : List Int) : List Wr := if comOk g ar = true then readL g (ar.drop 8) else []
def putsL (zs : List Int) (l : List Wr) : List Int := l.foldl (fun z x => z.set x.1.toNat x.2) zs
def ovTo (g : G) (ws : List Int) : Nat → List Int
  | 0 => ws
  | k + 1 => putsL (ovTo g ws k) (comL g (areaL ws k))
def clr (zs : List Int) (q : Nat) : List Int := zs.mapIdx fun i z => if 264 ≤ i ∧ i < q then 0 else z
def ovOk (g : G) (n : Nat) : Prop := mayP g ∧ wordsV g ≤ (n : Int)
instance (g : G) (n : Nat) : Decidable (ovOk g n) := by unfold ovOk; infer_instance
def overL (g : G) (ws : List Int) : List Int := if ovOk g ws.length then clr (ovTo g ws g.w.toNat) (264 + 208 * g.w.toNat) else []

theorem putsL_len (zs : List Int) (l : List Wr) : (putsL zs l).length = zs.length := by
  induction l generalizing zs with
  | nil => rfl
  | cons x l ih => exact (ih _).trans (List.length_set ..)
theorem putsL_snoc (zs : List Int) (l : List Wr) (x : Wr) : putsL zs (l ++ [x]) = (putsL zs l).set x.1.toNat x.2 := by simp [putsL]
theorem ovTo_len (g : G) (ws : List Int) : ∀ k, (ovTo g ws k).length = ws.length
  | 0 => rfl
  | k + 1 => (putsL_len _ _).trans (ovTo_len g ws k)
theorem clr_len (zs : List Int) (q : Nat) : (clr zs q).length = zs.length := List.length_mapIdx
theorem clr_at (zs : List Int) (q i : Nat) : (clr zs q)[i]? = zs[i]?.map fun z => if 264 ≤ i ∧ i < q then 0 else z := by simp [clr, List.getElem?_mapIdx]
theorem clr_none (zs : List Int) : clr zs 264 = zs := by
  refine List.ext_getElem? fun i => ?_
  rw [clr_at]
  cases zs[i]? with
  | none => rfl
  | some z => simp only [Option.map_some]; rw [if_neg (by omega)]
theorem clr_succ (zs : List Int) (q : Nat) (hq : 264 ≤ q) : (clr zs q).set q 0 = clr zs (q + 1) := by
  refine List.ext_getElem? fun i => ?_
  rw [List.getElem?_set, clr_at, clr_at, clr_len]
  by_cases e : q = i
  · subst e
    rw [if_pos rfl]
    by_cases hl : q < zs.length
    · rw [if_pos hl, List.getElem?_eq_getElem hl, Option.map_some, if_pos ⟨hq, by omega⟩]
    · rw [if_neg hl, List.getElem?_eq_none (by omega)]; rfl
  · rw [if_neg e]
    cases zs[i]? with
    | none => rfl
    | some z =>
      simp only [Option.map_some]
      by_cases h : 264 ≤ i ∧ i < q
      · rw [if_pos h, if_pos (by omega)]
      · rw [if_neg h, if_neg (by omega)]
theorem areaL_len (ws : List Int) (k : Nat) (h : 264 + 208 * k + 208 ≤ ws.length) : (areaL ws k).length = 208 := by
  unfold areaL; rw [List.length_take, List.length_drop]; omega
theorem areaL_mem {ws : List Int} {k : Nat} {x : Int} (h : x ∈ areaL ws k) : x ∈ ws := List.mem_of_mem_drop (List.mem_of_mem_take h)
theorem ov_words {g : G} {n : Nat} (h : ovOk g n) (k : Nat) (hk : (k : Int) < g.w) : 264 + 208 * k + 208 ≤ n ∧ placeV g 2 k = 264 + 208 * (k : Int) := by
  obtain ⟨hm, hw⟩ := h
  refine ⟨?_, ?_⟩
  · unfold wordsV at hw
    rw [if_pos hm] at hw
    unfold mayP at hm
    simp only [atN] at hw
    omega
  · have : placeV g 2 k = atN g 2 + sizeN 2 * k := if_pos ⟨hm, by omega, by simp only [manyN]; omega⟩
    rw [this]; simp only [atN, sizeN]
/-- The writes that are read may be. -/
theorem readL_in {g : G} {ws : List Int} {x : Wr} (hx : x ∈ readL g ws) : 0 ≤ x.1 ∧ x.1 < wordsV g := by
  unfold readL at hx
  by_cases h : readOk g ws = true
  · rw [if_pos h] at hx
    have hm : mayW g (pairsN ws (readN ws)) = true := by
      unfold readOk at h
      simp only [Bool.and_eq_true] at h
      exact h.2
    obtain ⟨i, hi, he⟩ := atW_mem hx
    unfold mayW at hm
    simp only [Bool.and_eq_true] at hm
    have hk := List.all_eq_true.1 hm.2 i (List.mem_range.2 hi)
    unfold okAt at hk
    simp only [Bool.and_eq_true] at hk
    have hk1 := hk.1
    rw [he] at hk1
    by_cases hb : ¬ mayP g ∨ x.1 < 0 ∨ atN g 7 ≤ x.1
    · rw [show whereV g x.1 = (0, 0, 0, 0) from if_pos hb] at hk1
      exact absurd hk1 (by decide)
    · rw [not_or, not_or, Classical.not_not] at hb
      refine ⟨by omega, ?_⟩
      unfold wordsV
      rw [if_pos hb.1]
      omega
  · rw [if_neg h] at hx; cases hx

/-- A row of words in a block of its own. -/
structure OutAt (W : World) (b : Nat) (zs : List Int) : Prop where
  ty : Tag W b 44
  at_ : ∀ j, j < zs.length → W.cell? ⟨b, j, none⟩ = some (.int .u64 (zs[j]?.getD 0))
section
variable {W W' : World} {b : Nat} {zs : List Int}
theorem OutAt.upo {O : Nat → Prop} (h : OutAt W b zs) (k : UpO O W W') (hb : ¬ O b) : OutAt W' b zs := ⟨k.tag h.ty hb, fun j hj => k.cell (h.at_ j hj) hb⟩
theorem OutAt.nw (h : OutAt W b zs) (k : Nw W W') : OutAt W' b zs := h.upo (O := fun _ => False) (.of_nw k) (fun hx => hx)
theorem OutAt.up {t : Nat} (h : OutAt W b zs) (k : Up t W W') (hb : b ≠ t) : OutAt W' b zs := h.upo (O := fun x => x = t) (.of_up k rfl) hb
theorem OutAt.ints (h : OutAt W b zs) : Ints W.heap.size .u64 W (some ⟨b, 0, none⟩) zs := .inr ⟨b, 0, rfl, h.ty.lt, fun j hj => by rw [Nat.zero_add]; exact h.at_ j hj⟩
theorem OutAt.set (h : OutAt W b zs) (k : Nat) (v : Int) : OutAt (W.setCell ⟨b, k, none⟩ (.int .u64 v)) b (zs.set k v) := by
  refine ⟨h.ty.set _ _ _, fun j hj => ?_⟩
  rw [List.length_set] at hj
  refine cell_set W b j k _ _ (h.at_ j hj) _ ?_
  by_cases e : j = k
  · subst e; rw [if_pos rfl, List.getElem?_set_self hj]; rfl
  · rw [if_neg e, List.getElem?_set_ne (fun h => e h.symm)]
theorem setCells_tag : ∀ (vs : List Value) (W : World) (b off k : Nat) (t : TypeId), Tag W k t → Tag (W.setCells b off vs) k t
  | [], W, b, off, k, t, h => h
  | v :: vs, W, b, off, k, t, h => by
    simp only [World.setCells]
    exact setCells_tag vs _ b (off + 1) k t (h.set b off v)
theorem setCells_upU : ∀ (vs : List Value) (W W0 : World) (b off : Nat), Up b W0 W → Up b W0 (W.setCells b off vs)
  | [], W, W0, b, off, h => h
  | v :: vs, W, W0, b, off, h => by
    simp only [World.setCells]
    exact setCells_upU vs _ W0 b (off + 1) (h.set off v)
theorem OutAt.clear (h : OutAt W b zs) (q n : Nat) (hq : q + n ≤ zs.length) (ys : List Int) (hl : ys.length = zs.length) (hy : ∀ j, j < zs.length → ys[j]?.getD 0 = if q ≤ j ∧ j < q + n then 0 else zs[j]?.getD 0) :
    OutAt (W.setCells b q (List.replicate n (.int .u64 0))) b ys := by
  refine ⟨setCells_tag _ _ _ _ _ _ h.ty, fun j hj => ?_⟩
  rw [hl] at hj
  have hs : ∀ i, i < (List.replicate n (Value.int .u64 0)).length → (W.cell? ⟨b, q + i, none⟩).isSome = true := fun i hi => by
    rw [List.length_replicate] at hi
    rw [h.at_ (q + i) (by omega)]; rfl
  rw [hy j hj]
  by_cases e : q ≤ j ∧ j < q + n
  · rw [if_pos e]
    have := World.cell?_setCells_in b _ q W hs (j - q) (by rw [List.length_replicate]; omega)
    rw [show q + (j - q) = j by omega] at this
    rw [this]; simp
  · rw [if_neg e, World.cell?_setCells_out b _ q W ⟨b, j, none⟩ (fun _ _ => by rw [List.length_replicate]; dsimp only; omega)]
    exact h.at_ j hj
end
theorem clr_block (zs : List Int) (q : Nat) (hq : 264 ≤ q) (n : Nat) : ∀ j, j < zs.length → (clr zs (q + n))[j]?.getD 0 = if q ≤ j ∧ j < q + n then 0 else (clr zs q)[j]?.getD 0 := by
  intro j hj
  rw [clr_at, clr_at, List.getElem?_eq_getElem hj]
  simp only [Option.map_some, Option.getD_some]
  by_cases h : q ≤ j ∧ j < q + n
  · rw [if_pos h, if_pos (by omega)]
  · rw [if_neg h]
    by_cases h' : 264 ≤ j ∧ j < q
    · rw [if_pos h', if_pos (by omega)]
    · rw [if_neg h', if_neg (by omega)]
/-- 'clear' of a row of words. -/
theorem wpList_clear_u64 {P : Program} {ops : Array Oper} {rest : List Oper} {o : Oper} {a : Act} {w : World} {Q : Exit → Act → World → Prop} (hgd : o.guard = none) (s : Operand) (t e : TypeId)
    (ho : o.op = .call { callee := .builtin .clear, args := #[s], argTypes := #[t] }) (ht : P.underlying t = some (.slice e)) (hv : ∀ w, (zeroValue e).run P w = .ok (.int .u64 0) w)
    (b off n c : Nat) (hs : a.eval s = .slice (some ⟨b, off, none⟩) n c) (hn : 0 < n) (hc : ∀ j, j < n → (w.cell? ⟨b, off + j, none⟩).isSome = true) (hf : ∀ j, w.frozen? ⟨b, j, none⟩ = false)
    (h : ∀ w', w' = w.setCells b off (List.replicate n (.int .u64 0)) → wpList P ops Q rest (a.put o.dst (.tuple #[])) w') : wpList P ops Q (o :: rest) a w := by
  refine wpList_plain hgd fun K hK => ?_
  have hr := Lib.run_clear_slice (P := P) w t e o.type (.int .u64 0) ht hv rfl rfl b off n c hn hc (fun j _ => hf _)
  unfold Oper.wp execOp
  simp only [ho, resolve, invoke, builtin, Sem.run_bind, Sem.run_pure, Result.andThen_ok, List.map_toArray, List.map_cons, List.map_nil, hs, hr]
  exact hK _ _ (h _ rfl)
theorem zero_u64 (w : World) : (zeroValue 44).run Tryz.prog w = .ok (.int .u64 0) w := by kernel_rfl
/-- What a clone is, as a row of one's own. -/
theorem OwnU.out {w w' : World} {zs : List Int} {e : Ending} (h : OwnU w zs e w') (hz : 0 < zs.length) : ∃ b c, e = .returned (.slice (some ⟨b, 0, none⟩) zs.length c) ∧ OutAt w' b zs ∧ Nw w w' ∧ zs.length ≤ c ∧ w.heap.size ≤ b := by
  obtain ⟨v, rfl, ho, hn⟩ := h
  rcases ho.2 with ⟨_, h0⟩ | ⟨b, c, cur, rfl, hb, hh, hc, _⟩
  · omega
  · refine ⟨b, c, rfl, ⟨⟨cur, hh⟩, fun j hj => ?_⟩, hn, hc, hb⟩
    have := ho.cellAt j (by omega)
    rw [this, List.getElem?_map, List.getElem?_eq_getElem hj]
    rfl
/-- What Over tells. -/
def OvR (zs : List Int) (w : World) (e : Ending) (w' : World) : Prop :=
  ∃ a c, e = .returned (.slice a zs.length c) ∧ zs.length ≤ c ∧ Ints w'.heap.size .u64 w' a zs ∧ Nw w w' ∧ Shp a zs.length c
end Go.Proofs.YtkopfnldgnkkoaaGreat

/-
  OVER: committed.
-/
namespace Go.Proofs.YtkopfnldgnkkoaaGreat
open Go.RowKit Go.Shelf
set_option linter.unusedVariables false

/-- What committed tells. -/
def ComR (g : G) (ar : List Int) (w : World) (e : Ending) (w' : World) : Prop :=
  ∃ a n c, e = .returned (.tuple #[.slice a n c, .bool (comOk g ar), .bool (hd ar != 0)]) ∧ n ≤ c ∧ (comOk g ar = true → n = (comL g ar).length ∧ Pairs .i64 .u64 w'.heap.size w' a (comL g ar)) ∧ Nw w w' ∧ (∀ p, a = some p → w.heap.size ≤ p.block)
theorem Ints.drop {n₀ : Nat} {k : IntKind} {w : World} {b off : Nat} {zs : List Int} (h : Ints n₀ k w (some ⟨b, off, none⟩) zs) (q : Nat) : Ints n₀ k w (some ⟨b, off + q, none⟩) (zs.drop q) := by
  rcases h with rfl | ⟨b', off', e, hb, hc⟩
  · exact .inl (by simp)
  · cases e
    refine .inr ⟨b, off + q, rfl, hb, fun j hj => ?_⟩
    rw [List.length_drop] at hj
    rw [Nat.add_assoc, hc (q + j) (by omega), List.getElem?_drop]
set_option maxRecDepth 100000 in
set_option maxHeartbeats 4000000 in
theorem committed_any (g : G) (b off cap n₀ : Nat) (ar : List Int) (hl : ar.length = 208) (hc : 208 ≤ cap) (hu : ∀ n ∈ ar, u64 n) (w : World) (hn₀ : n₀ ≤ w.heap.size) (hI : Ints n₀ .u64 w (some ⟨b, off, none⟩) ar) :
    Calls Tryz.prog 66 #[gV g, .slice (some ⟨b, off, none⟩) 208 cap] w (ComR g ar w) := by
  have hb := Blk.new w #[.int .i64 g.w, .int .i64 g.i, .int .i64 g.b] 26
  have hn1 := (Nw.refl (w := w)).alloc (.cells #[.int .i64 g.w, .int .i64 g.i, .int .i64 g.b] 26)
  have hI1 := hI.below (hn1.b.mono hn₀)
  have HD := Lib.hid (hI1.drop 8)
  have hlo : (ar.drop 8).length = 200 := by rw [List.length_drop]; omega
  have huo : ∀ n ∈ ar.drop 8, u64 n := fun n hn => hu n (List.mem_of_mem_drop hn)
  have HOK := Lib.hid (show comOk g ar = (readOk g (ar.drop 8) && (hd ar != 0) && (hd ar == markV (ar.drop 8))) from rfl)
  have HCL := Lib.hid (show comL g ar = if comOk g ar = true then readL g (ar.drop 8) else [] from rfl)
  have hc0 : w.cell? ⟨b, off, none⟩ = some (.int .u64 (hd ar)) := by
    rcases hI with rfl | ⟨b', off', e, _, hc⟩
    · cases hl
    · cases e; exact hc 0 (by omega)
  have hblt : b < w.heap.size := by
    rcases hI with rfl | ⟨b', off', e, hb', _⟩
    · cases hl
    · cases e; omega
  have hc0' : (w.alloc (.cells #[.int .i64 g.w, .int .i64 g.i, .int .i64 g.b] 26)).cell? ⟨b, off, none⟩ = some (.int .u64 (hd ar)) := (hn1.b.cell (p := ⟨b, off, none⟩) hblt).trans hc0
  obtain ⟨own, hown⟩ : ∃ own, ar.drop 8 = own := ⟨_, rfl⟩
  rw [hown] at HD hlo huo HOK HCL
  obtain ⟨m, hm⟩ : ∃ m, hd ar = m := ⟨_, rfl⟩
  rw [hm] at HOK hc0'
  unfold ComR
  rw [hm]
  clear hown hI hI1 hc0 hu
  unfold gV
  go_enter Tryz.func66, Tryz.ntmps66
  go_upto_region 1 with fail
  generalize w.alloc (.cells #[.int .i64 g.w, .int .i64 g.i, .int .i64 g.b] 26) = w1 at *
  generalize hbx : w.heap.size = bx at hb
  have HBX := Lib.hid hbx
  have HN1 := Lib.hid hn1
  have HB1 := Lib.hid hb
  have hw1 : w.heap.size ≤ w1.heap.size := hn1.b.size
  have HRD := Lib.hid (fun (k : Nat) => read_any g (some ⟨b, off + 8, none⟩) (cap - 8) n₀ own (by omega) huo (by omega) (w1.drewN k) (by rw [show (w1.drewN k).heap = w1.heap from rfl]; omega) (HD.out.below (below_drewN (Below.refl _ _) k)))
  have HMK := Lib.hid (fun (W : World) (k : Nw w1 W) => mark_any (some ⟨b, off + 8, none⟩) (cap - 8) n₀ own (by omega) huo (by omega) W (HD.out.below (k.b.mono (by omega))))
  unfold gV at HRD
  rw [hlo] at HRD HMK
  have c0 : w1.cell? ⟨bx, 0, none⟩ = some (.int .i64 g.w) := hb.cell rfl
  have c1 : w1.cell? ⟨bx, 1, none⟩ = some (.int .i64 g.i) := hb.cell rfl
  have c2 : w1.cell? ⟨bx, 2, none⟩ = some (.int .i64 g.b) := hb.cell rfl
  clear hb hn1 hw1 hbx
  go_quiet (fail)
  have c0' : (w1.drewN nq).cell? ⟨bx, 0, none⟩ = some (.int .i64 g.w) := HB1.out.cell rfl
  have c1' : (w1.drewN nq).cell? ⟨bx, 1, none⟩ = some (.int .i64 g.i) := HB1.out.cell rfl
  have c2' : (w1.drewN nq).cell? ⟨bx, 2, none⟩ = some (.int .i64 g.b) := HB1.out.cell rfl
  have HN2 := Lib.hid (HN1.out.drewN nq)
  have HK2 := Lib.hid (show Nw w1 (w1.drewN nq) from nw_drewN w1 nq)
  have HRQ := Lib.hid (HRD.out nq)
  generalize w1.drewN nq = w2 at *
  clear c0 c1 c2 hc0' HRD
  by_cases h0 : m = 0
  · have hC := Lib.hid (show comOk g ar = false by rw [HOK.out]; simp [h0])
    have hm0 := Lib.hid (show (m != 0) = false by rw [h0]; rfl)
    subst h0
    go_wp2_with fail
    go_ret3
    refine ⟨none, 0, 0, by rw [hC.out]; rfl, Nat.le_refl _, fun h => (by rw [hC.out] at h; cases h), HN2.out, fun p hp => by cases hp⟩
  have hmb : (m == 0) = false := by rw [beq_eq_false_iff_ne]; exact h0
  have HMB := Lib.hid (show (m != 0) = true by rw [bne_iff_ne]; exact h0)
  clear h0
  go_wp2_with fail
  refine HRQ.out.mono ?_
  rintro e w3 ⟨a, c, rfl, hc3, hP3, hn3, hf3⟩
  have HF3 := Lib.hid (fun (p : Addr) (hp : a = some p) => Nat.le_trans HN2.out.b.size (hf3 p hp))
  have HP3 := Lib.hid hP3
  have HN3 := Lib.hid (HN2.out.trans hn3)
  have HM3 := Lib.hid (HMK.out w3 (HK2.out.trans hn3))
  clear hf3 hP3 hn3 c0' c1' c2' HMK HRQ
  obtain ⟨n, hn⟩ : ∃ n, (readL g own).length = n := ⟨_, rfl⟩
  have HNN := Lib.hid hn
  rw [hn] at hc3 ⊢
  clear hn
  cases hr : readOk g own
  · have hC := Lib.hid (show comOk g ar = false by rw [HOK.out, hr]; rfl)
    have he : readE g own = 4 := if_neg (by rw [hr]; decide)
    rw [he]
    clear hr he
    go_wp2_with fail
    go_ret3
    exact ⟨a, n, c, by rw [hC.out, HMB.out]; rfl, hc3, fun h => (by rw [hC.out] at h; cases h), HN3.out, HF3.out⟩
  · have he : readE g own = 0 := if_pos hr
    have hC := Lib.hid (show comOk g ar = (m == markV own) by rw [HOK.out, hr, HMB.out]; rfl)
    have hCL := Lib.hid (fun (h : comOk g ar = true) => (show comL g ar = readL g own by rw [HCL.out, if_pos h]))
    rw [he]
    clear hr he
    go_wp2_with fail
    refine HM3.out.mono ?_
    rintro e w4 ⟨rfl, nd, rfl⟩
    go_wp2_with fail
    go_ret3
    refine ⟨a, n, c, by rw [hC.out, HMB.out]; rfl, hc3, fun h => ⟨by rw [hCL.out h, HNN.out], ?_⟩, HN3.out.drewN nd, HF3.out⟩
    rw [hCL.out h]
    exact HP3.out.nw (nw_drewN w3 nd)
end Go.Proofs.YtkopfnldgnkkoaaGreat

/-
  OVER: view.Apply.
-/
namespace Go.Proofs.YtkopfnldgnkkoaaGreat
open Go.RowKit Go.Shelf
set_option linter.unusedVariables false

/-- The box of a slice of words. -/
def WBox (w : World) (B : Nat) (b n c : Nat) : Prop := Blk w B #[.slice (some ⟨b, 0, none⟩) n c] 33
set_option maxHeartbeats 1000000 in
theorem apply1_any (B b n c : Nat) (x : Wr) (h0 : 0 ≤ x.1) (h1 : x.1 < (n : Int)) (w : World) (h : WBox w B b n c) :
    Calls Tryz.prog 104 #[.agg #[.int .i64 x.1, .int .u64 x.2], .pointer (some ⟨B, 0, none⟩)] w fun e w' => e = .returned (.bool false) ∧ Nw w w' := by
  obtain ⟨x1, x2⟩ := x
  dsimp only at h0 h1 ⊢
  have hn1 := (Nw.refl (w := w)).alloc (.cells #[.int .i64 x1, .int .u64 x2] 91)
  have hb1 := h.nw hn1
  have hx := Blk.new w #[.int .i64 x1, .int .u64 x2] 91
  go_enter Tryz.func104, Tryz.ntmps104
  go_upto_region 1 with fail
  generalize w.alloc (.cells #[.int .i64 x1, .int .u64 x2] 91) = w1 at *
  generalize w.heap.size = bx at *
  have c0 : w1.cell? ⟨bx, 0, none⟩ = some (.int .i64 x1) := hx.cell rfl
  have c1 : w1.cell? ⟨B, 0, none⟩ = some (.slice (some ⟨b, 0, none⟩) n c) := hb1.cell rfl
  go_wp2_with fail
  go_ret
  refine ⟨?_, hn1⟩
  show Ending.returned (.bool (decide (x1 < 0) || decide ((n : Int) ≤ x1))) = _
  rw [decide_eq_false (by omega), decide_eq_false (by omega)]
  rfl
set_option maxRecDepth 100000 in
set_option maxHeartbeats 2000000 in
theorem apply_index (B b m cm : Nat) (a : Option Addr) (n c n₀ : Nat) (l : List Wr) (hl : l.length = n) (hn : n ≤ 1000000) (hin : ∀ x ∈ l, 0 ≤ x.1 ∧ x.1 < (m : Int)) (w : World) (hn₀ : n₀ ≤ w.heap.size) (hb : WBox w B b m cm) (hI : Pairs .i64 .u64 n₀ w a l) :
    Calls Tryz.prog 122 #[.slice a n c, .func (.func 104) #[] #[.pointer (some ⟨B, 0, none⟩)]] w fun e w' => e = .returned (.int .i64 (-1)) ∧ Nw w w' := by
  subst hl
  have HB := Lib.hid hb
  have HC := Lib.hid (fun (x : Wr) (hx : x ∈ l) (W : World) (k : Nw w W) => apply1_any B b m cm x (hin x hx).1 (hin x hx).2 W (hb.nw k))
  clear hb hin
  go_enter Tryz.func122, Tryz.ntmps122
  go_wp2_with fail
  go_loopw [8, 5] (fun i q wr => ∃ k : Nat, k ≤ l.length ∧ i = .int .i64 k ∧ Nw w wr) (fun i _ _ => l.length - (intOf i).toNat)
  case atStart => exact ⟨0, by omega, rfl, Nw.refl⟩
  case round =>
    obtain ⟨k, hk, rfl, hnw⟩ := hrel
    have HN := Lib.hid hnw
    clear hnw
    by_cases hlt : k < l.length
    · obtain ⟨b', off, rfl, hc1, hc2⟩ := (hI.below (HN.out.b.mono hn₀)).at hlt
      have HCy := Lib.hid (HC.out l[k] (List.getElem_mem hlt) wr HN.out)
      obtain ⟨y, hy⟩ : ∃ y, l[k] = y := ⟨_, rfl⟩
      rw [hy] at hc1 hc2 HCy
      clear hy hI
      go_wp2_with fail
      refine HCy.out.mono ?_
      rintro e w1 ⟨rfl, h1⟩
      have HN1 := Lib.hid (HN.out.trans h1)
      clear h1
      go_wp2_with fail
      go_round
      case rel => exact ⟨k + 1, by omega, by go_num, HN1.out⟩
      case measure => simp [intOf]; omega
    · go_wp2_with fail
      go_ret
      exact ⟨rfl, HN.out⟩
set_option maxHeartbeats 2000000 in
theorem apply_contains (B b m cm : Nat) (a : Option Addr) (n c n₀ : Nat) (l : List Wr) (hl : l.length = n) (hn : n ≤ 1000000) (hin : ∀ x ∈ l, 0 ≤ x.1 ∧ x.1 < (m : Int)) (w : World) (hn₀ : n₀ ≤ w.heap.size) (hb : WBox w B b m cm) (hI : Pairs .i64 .u64 n₀ w a l) :
    Calls Tryz.prog 103 #[.slice a n c, .func (.func 104) #[] #[.pointer (some ⟨B, 0, none⟩)]] w fun e w' => e = .returned (.bool false) ∧ Nw w w' := by
  have HC := Lib.hid (apply_index B b m cm a n c n₀ l hl hn hin w hn₀ hb hI)
  clear hb hI hl hin
  go_enter Tryz.func103, Tryz.ntmps103
  go_wp2_with fail
  refine HC.out.mono ?_
  rintro e w1 ⟨rfl, h1⟩
  go_wp2_with fail
  go_ret
  exact ⟨rfl, h1⟩
end Go.Proofs.YtkopfnldgnkkoaaGreat

/-
  OVER: view.Apply of writes that are in.
-/
namespace Go.Proofs.YtkopfnldgnkkoaaGreat
open Go.RowKit Go.Shelf
set_option linter.unusedVariables false

theorem putsL_take {zs : List Int} {l : List Wr} {k : Nat} (h : k < l.length) : putsL zs (l.take (k + 1)) = (putsL zs (l.take k)).set l[k].1.toNat l[k].2 := by
  rw [List.take_succ_eq_append_getElem h, putsL_snoc]
set_option maxRecDepth 100000 in
set_option maxHeartbeats 4000000 in
theorem apply_any' (b m cm : Nat) (zs : List Int) (hz : zs.length = m) (hmc : m ≤ cm) (la : Option Addr) (n lc n₀ : Nat) (l : List Wr) (hl : l.length = n) (hn : n ≤ 1000000) (hin : ∀ x ∈ l, 0 ≤ x.1 ∧ x.1 < (m : Int)) (w : World) (hn₀ : n₀ ≤ w.heap.size) (hO : OutAt w b zs) (hI : Pairs .i64 .u64 n₀ w la l) (hne : ∀ p, la = some p → p.block ≠ b) :
    Calls Tryz.prog 81 #[.slice (some ⟨b, 0, none⟩) m cm, .slice la n lc] w fun e w' => e = .returned (.int .i64 0) ∧ OutAt w' b (putsL zs l) ∧ Up b w w' := by
  have hb := Blk.new w #[.slice (some ⟨b, 0, none⟩) m cm] 33
  have hn1 := (Nw.refl (w := w)).alloc (.cells #[.slice (some ⟨b, 0, none⟩) m cm] 33)
  have HL := Lib.hid hl
  have HZ := Lib.hid hz
  have HIN := Lib.hid hin
  have HNE := Lib.hid hne
  have HBN := Lib.hid (show w.heap.size ≠ b from (Nat.ne_of_lt hO.ty.lt).symm)
  have HI := Lib.hid (hI.below (hn1.b.mono hn₀))
  have HO := Lib.hid (hO.nw hn1)
  have HN1 := Lib.hid hn1
  have HLE := Lib.hid (Nat.le_trans hn₀ hn1.b.size)
  clear hz hne hI hO hn1
  go_enter Tryz.func81, Tryz.ntmps81
  go_upto_region 1 with fail
  generalize w.alloc (.cells #[.slice (some ⟨b, 0, none⟩) m cm] 33) = w1 at *
  generalize w.heap.size = B at *
  have HB := Lib.hid (show WBox w1 B b m cm from hb)
  have HC := Lib.hid (apply_contains B b m cm la n lc n₀ l hl hn hin w1 HLE.out hb HI.out)
  clear hb hl hin
  go_wp2_with fail
  refine HC.out.mono ?_
  rintro e w2 ⟨rfl, h2⟩
  have HB2 := Lib.hid (show WBox w2 B b m cm from HB.out.nw h2)
  have HO2 := Lib.hid (HO.out.nw h2)
  have HU2 := Lib.hid (show Up b w w2 from .of_nw (HN1.out.trans h2))
  have HI2 := Lib.hid (HI.out.below (h2.b.mono HLE.out))
  clear h2 HC HO HB HI HN1
  go_wp2_with fail
  go_loopw [12] (fun v wr => ∃ k : Nat, k ≤ n ∧ v = .int .i64 k ∧ WBox wr B b m cm ∧ OutAt wr b (putsL zs (l.take k)) ∧ Up b w2 wr) (fun v _ => n - (intOf v).toNat)
  case atStart => exact ⟨0, Nat.zero_le _, rfl, HB2.out, by simpa [putsL] using HO2.out, Up.refl _ _⟩
  case round =>
    obtain ⟨k, hk, rfl, hb, ho, hu⟩ := hrel
    have HB := Lib.hid hb
    have HO := Lib.hid ho
    have HU := Lib.hid hu
    clear hb ho hu HO2
    by_cases hlt : k < n
    · have hkl : k < l.length := by rw [HL.out]; exact hlt
      obtain ⟨pb, po, rfl, p1, p2⟩ := Pairs.at (j := k) HI2.out hkl
      have hpb := HNE.out _ rfl
      have p1' := HU.out.cell p1 hpb
      have p2' := HU.out.cell p2 hpb
      have HPT := Lib.hid (putsL_take (zs := zs) hkl)
      have hx := HIN.out _ (List.getElem_mem hkl)
      obtain ⟨x, hxe⟩ : ∃ x, l[k] = x := ⟨_, rfl⟩
      rw [hxe] at p1' p2' HPT hx
      obtain ⟨x1, x2⟩ := x
      dsimp only at p1' p2' HPT hx
      clear p1 p2 hxe hkl
      go_upto_region 6 with fail
      have hbw := Blk.new wr #[.int .i64 x1, .int .u64 x2] 91
      have hn := (Nw.refl (w := wr)).alloc (.cells #[.int .i64 x1, .int .u64 x2] 91)
      clear p1' p2'
      generalize wr.alloc (.cells #[.int .i64 x1, .int .u64 x2] 91) = w3 at *
      generalize wr.heap.size = bw at hbw ⊢
      have HB3 := Lib.hid (show WBox w3 B b m cm from HB.out.nw hn)
      have HO3 := Lib.hid (HO.out.nw hn)
      have HU3 := Lib.hid (HU.out.nw hn)
      obtain ⟨q, hq⟩ : ∃ q : Nat, (q : Int) = x1 := ⟨x1.toNat, by omega⟩
      subst hq
      have hqm : q < m := by omega
      have hqi : (q : Int) < (m : Int) := by omega
      have hq0 : 0 ≤ (q : Int) := by omega
      have hbne : B ≠ b := HB.out.tag.ne HO.out.ty (by decide)
      have HS := Lib.hid (HO3.out.set q x2)
      have hcq : w3.cell? ⟨b, q, none⟩ = some (.int .u64 ((putsL zs (l.take k))[q]?.getD 0)) := HO3.out.at_ q (by rw [putsL_len, HZ.out]; exact hqm)
      have hfr : w3.frozen? ⟨b, q, none⟩ = false := HO3.out.ty.frozen q
      have cB : w3.cell? ⟨B, 0, none⟩ = some (.slice (some ⟨b, 0, none⟩) m cm) := HB3.out.cell rfl
      have d0 : w3.cell? ⟨bw, 0, none⟩ = some (.int .i64 (q : Int)) := hbw.cell rfl
      have d1 : w3.cell? ⟨bw, 1, none⟩ = some (.int .u64 x2) := hbw.cell rfl
      clear hbw hn HB HO
      go_wp2_with fail
      go_roundw
      case rel =>
        refine ⟨k + 1, by omega, by go_num, Blk.far HB3.out _ _ _ hbne, ?_, HU3.out.set _ _⟩
        rw [HPT.out]
        exact HS.out
      case measure => simp [intOf]; omega
    · obtain rfl : k = n := by omega
      rw [List.take_of_length_le (by rw [HL.out]; exact Nat.le_refl _)] at HO
      go_wp2_with fail
      go_ret
      exact ⟨rfl, HO.out, HU2.out.trans HU.out⟩
end Go.Proofs.YtkopfnldgnkkoaaGreat

/-
  OVER: commit.Over.
-/
namespace Go.Proofs.YtkopfnldgnkkoaaGreat
open Go.RowKit Go.Shelf
set_option linter.unusedVariables false

theorem comL_in {g : G} {ar : List Int} {x : Wr} (hx : x ∈ comL g ar) : 0 ≤ x.1 ∧ x.1 < wordsV g := by
  unfold comL at hx
  by_cases h : comOk g ar = true
  · rw [if_pos h] at hx; exact readL_in hx
  · rw [if_neg h] at hx; cases hx
theorem readL_le (g : G) (ws : List Int) : (readL g ws).length ≤ 96 := by
  unfold readL
  by_cases h : readOk g ws = true
  · rw [if_pos h]
    unfold readOk at h
    simp only [Bool.and_eq_true] at h
    have h2 := h.2
    unfold mayW at h2
    simp only [Bool.and_eq_true, decide_eq_true_eq] at h2
    exact h2.1.2
  · rw [if_neg h]; exact Nat.zero_le _
theorem comL_le (g : G) (ar : List Int) : (comL g ar).length ≤ 96 := by
  unfold comL
  by_cases h : comOk g ar = true
  · rw [if_pos h]; exact readL_le _ _
  · rw [if_neg h]; exact Nat.zero_le _
theorem comL_no {g : G} {ar : List Int} (h : comOk g ar = false) : comL g ar = [] := if_neg (by rw [h]; decide)
theorem words_pos {g : G} (h : mayP g) : 536 ≤ wordsV g := by
  unfold wordsV; rw [if_pos h]
  unfold mayP at h
  simp only [atN]; omega
theorem over_no (g : G) (n : Nat) (h : ¬ ovOk g n) : wordsV g = 0 ∨ (wordsV g ≠ 0 ∧ (n : Int) < wordsV g) := by
  by_cases hm : mayP g
  · right
    have := words_pos hm
    refine ⟨by omega, ?_⟩
    unfold ovOk at h
    have : ¬ wordsV g ≤ (n : Int) := fun h' => h ⟨hm, h'⟩
    omega
  · left; exact if_neg hm
/-- Behind a clear. -/
def ClrZ (b : Nat) (zs : List Int) (w w' : World) : Prop := OutAt w' b zs ∧ Up b w w'
theorem wpList_clear_z {P : Program} {ops : Array Oper} {rest : List Oper} {o : Oper} {a : Act} {w : World} {Q : Exit → Act → World → Prop} (hgd : o.guard = none) (s : Operand) (t e : TypeId)
    (ho : o.op = .call { callee := .builtin .clear, args := #[s], argTypes := #[t] }) (ht : P.underlying t = some (.slice e)) (hv : ∀ w, (zeroValue e).run P w = .ok (.int .u64 0) w)
    (b off n c : Nat) (hs : a.eval s = .slice (some ⟨b, off, none⟩) n c) (hn : 0 < n) (hc : ∀ j, j < n → (w.cell? ⟨b, off + j, none⟩).isSome = true) (hf : ∀ j, w.frozen? ⟨b, j, none⟩ = false)
    (Z : World → Prop) (hZ : Z (w.setCells b off (List.replicate n (.int .u64 0)))) (h : ∀ w', Z w' → wpList P ops Q rest (a.put o.dst (.tuple #[])) w') : wpList P ops Q (o :: rest) a w :=
  wpList_clear_u64 hgd s t e ho ht hv b off n c hs hn hc hf fun w' e' => h w' (e' ▸ hZ)
set_option maxRecDepth 100000 in
set_option maxHeartbeats 4000000 in
theorem over_nil (g : G) (a : Option Addr) (n c : Nat) (h : ¬ ovOk g n) (w : World) :
    Calls Tryz.prog 32 #[gV g, .slice a n c] w (OvR [] w) := by
  have hn0 := (Nw.refl (w := w)).alloc (.cells #[.int .i64 g.w, .int .i64 g.i, .int .i64 g.b] 26)
  have hb := Blk.new w #[.int .i64 g.w, .int .i64 g.i, .int .i64 g.b] 26
  have hno := over_no g n h
  unfold gV
  clear h
  go_enter Tryz.func32, Tryz.ntmps32
  go_upto_region 1 with fail
  generalize w.alloc (.cells #[.int .i64 g.w, .int .i64 g.i, .int .i64 g.b] 26) = w1 at *
  generalize w.heap.size = bx at hb ⊢
  have c0 : w1.cell? ⟨bx, 0, none⟩ = some (.int .i64 g.w) := hb.cell rfl
  have c1 : w1.cell? ⟨bx, 1, none⟩ = some (.int .i64 g.i) := hb.cell rfl
  have c2 : w1.cell? ⟨bx, 2, none⟩ = some (.int .i64 g.b) := hb.cell rfl
  have HLW := Lib.hid (lwords_any g (w0 := w1) (w := w1) At.refl)
  have HN := Lib.hid hn0
  unfold gV at HLW
  generalize wordsV g = V at *
  clear hb hn0
  go_wp2_with fail
  refine HLW.out.mono ?_
  rintro e w2 ⟨rfl, h2⟩
  have HN2 := Lib.hid (HN.out.trans h2.nw)
  clear h2 c0 c1 c2 HLW
  rcases hno with rfl | ⟨hv, hlt⟩
  · go_wp2_with fail
    go_ret
    exact ⟨none, 0, rfl, Nat.le_refl _, .inl rfl, HN2.out, .inl ⟨rfl, rfl, rfl⟩⟩
  · have hvb : (V == 0) = false := by rw [beq_eq_false_iff_ne]; exact hv
    clear hv
    go_wp2_with fail
    go_ret
    exact ⟨none, 0, rfl, Nat.le_refl _, .inl rfl, HN2.out, .inl ⟨rfl, rfl, rfl⟩⟩
set_option maxRecDepth 100000 in
set_option maxHeartbeats 8000000 in
theorem over_yes (g : G) (a : Option Addr) (n c n₀ : Nat) (ws : List Int) (hx : ws.length = n) (hs : Shp a n c) (hnc : n ≤ c) (hn : n ≤ 1000000) (hu : ∀ x ∈ ws, u64 x) (h : ovOk g n) (w : World) (hn₀ : n₀ ≤ w.heap.size) (hI : Ints n₀ .u64 w a ws) :
    Calls Tryz.prog 32 #[gV g, .slice a n c] w (OvR (overL g ws) w) := by
  have hn0 := (Nw.refl (w := w)).alloc (.cells #[.int .i64 g.w, .int .i64 g.i, .int .i64 g.b] 26)
  have hb := Blk.new w #[.int .i64 g.w, .int .i64 g.i, .int .i64 g.b] 26
  have HX := Lib.hid hx
  have HU := Lib.hid hu
  have HOK := Lib.hid h
  have hVp := words_pos h.1
  have hVn := h.2
  have hgw := h.1.1
  have hgw4 := h.1.2.1
  have hOL : overL g ws = clr (ovTo g ws g.w.toNat) (264 + 208 * g.w.toNat) := if_pos (by rw [hx]; exact h)
  rw [hOL]
  obtain ⟨b, off, rfl⟩ : ∃ b off, a = some ⟨b, off, none⟩ := by
    rcases hs with ⟨_, h0, _⟩ | h
    · omega
    · exact h
  have HI := Lib.hid hI
  unfold gV
  clear h hx hu hI hOL hs
  have HI1 := Lib.hid (HI.out.below (hn0.b.mono hn₀))
  go_enter Tryz.func32, Tryz.ntmps32
  go_upto_region 1 with fail
  have HLE := Lib.hid (Nat.le_trans hn₀ hn0.b.size)
  generalize w.alloc (.cells #[.int .i64 g.w, .int .i64 g.i, .int .i64 g.b] 26) = w1 at *
  generalize hbx : w.heap.size = bx at hb ⊢
  have HBX := Lib.hid hbx
  clear hbx
  have c0 : w1.cell? ⟨bx, 0, none⟩ = some (.int .i64 g.w) := hb.cell rfl
  have c1 : w1.cell? ⟨bx, 1, none⟩ = some (.int .i64 g.i) := hb.cell rfl
  have c2 : w1.cell? ⟨bx, 2, none⟩ = some (.int .i64 g.b) := hb.cell rfl
  have HLW := Lib.hid (lwords_any g (w0 := w1) (w := w1) At.refl)
  have HN := Lib.hid hn0
  have HB := Lib.hid hb
  unfold gV at HLW
  obtain ⟨V, hV⟩ : ∃ V, wordsV g = V := ⟨_, rfl⟩
  have HV := Lib.hid hV
  rw [hV] at HLW hVp hVn
  have hvb : (V == 0) = false := by rw [beq_eq_false_iff_ne]; omega
  clear hb hn0 hV
  go_wp2_with fail
  refine HLW.out.mono ?_
  rintro e w2 ⟨rfl, h2⟩
  have HN2 := Lib.hid (HN.out.trans h2.nw)
  have HB2 := Lib.hid (HB.out.nw h2.nw)
  have HI2 := Lib.hid (HI1.out.below (h2.nw.b.mono HLE.out))
  have HLE2 := Lib.hid (Nat.le_trans HLE.out h2.nw.b.size)
  have HCL := Lib.hid (cloneU_any (some ⟨b, off, none⟩) n c n₀ ws HX.out (.inr ⟨b, off, rfl⟩) hn w2 HLE2.out HI2.out)
  clear h2 c0 c1 c2 HLW HB HI1
  have hlv : ¬ ((n : Int) < V) := by omega
  go_wp2_with fail
  refine HCL.out.mono ?_
  intro e w3 hown
  obtain ⟨bo, co, rfl, ho, hn3, hco, hbo⟩ := hown.out (by rw [HX.out]; omega)
  rw [HX.out] at hco ⊢
  have HB3 := Lib.hid (HB2.out.nw hn3)
  have HO3 := Lib.hid ho
  have HN3 := Lib.hid (HN2.out.trans hn3)
  have HI3 := Lib.hid (HI2.out.below (hn3.b.mono HLE2.out))
  have HBO := Lib.hid (Nat.le_trans HLE2.out hbo)
  have HBW := Lib.hid (Nat.le_trans HN2.out.b.size hbo)
  clear hown ho hn3 hbo HCL HI2
  have c0 : w3.cell? ⟨bx, 0, none⟩ = some (.int .i64 g.w) := HB3.out.cell rfl
  have c1 : w3.cell? ⟨bx, 1, none⟩ = some (.int .i64 g.i) := HB3.out.cell rfl
  have c2 : w3.cell? ⟨bx, 2, none⟩ = some (.int .i64 g.b) := HB3.out.cell rfl
  go_wp2_with fail
  clear c0 c1 c2
  go_loopw [28] (fun v wr => ∃ k : Nat, (k : Int) ≤ g.w ∧ v = .int .i64 k ∧ Blk wr bx #[.int .i64 g.w, .int .i64 g.i, .int .i64 g.b] 26 ∧ OutAt wr bo (ovTo g ws k) ∧ Up bo w3 wr) (fun v _ => g.w.toNat - (intOf v).toNat)
  case atStart => exact ⟨0, by omega, rfl, HB3.out, HO3.out, Up.refl _ _⟩
  case round =>
    obtain ⟨k, hk, rfl, hb, ho, hup⟩ := hrel
    have HB := Lib.hid hb
    have HO := Lib.hid ho
    have HU' := Lib.hid hup
    clear hb ho hup
    have c0 : wr.cell? ⟨bx, 0, none⟩ = some (.int .i64 g.w) := HB.out.cell rfl
    have c1 : wr.cell? ⟨bx, 1, none⟩ = some (.int .i64 g.i) := HB.out.cell rfl
    have c2 : wr.cell? ⟨bx, 2, none⟩ = some (.int .i64 g.b) := HB.out.cell rfl
    by_cases hlt : (k : Int) < g.w
    · obtain ⟨hq1, hq2⟩ := ov_words HOK.out k hlt
      obtain ⟨q, hq⟩ : ∃ q : Nat, q = 264 + 208 * k := ⟨_, rfl⟩
      have HAR := Lib.hid (area_at g k (w0 := wr) (w := wr) At.refl)
      rw [hq2, show (264 + 208 * (k : Int)) = ((q : Nat) : Int) by omega] at HAR
      unfold gV at HAR
      have HAL := Lib.hid (areaL_len ws k (by rw [HX.out]; exact hq1))
      have HQ := Lib.hid hq
      have hq3 : q + 208 ≤ n := by omega
      clear hq hq1 hq2
      go_wp2_with fail
      refine HAR.out.mono ?_
      rintro e w4 ⟨rfl, h4⟩
      have HB4 := Lib.hid (HB.out.nw h4.nw)
      have HO4 := Lib.hid (HO.out.nw h4.nw)
      have HU4 := Lib.hid (HU'.out.nw h4.nw)
      have HN4 := Lib.hid h4.nw
      clear h4 c0 c1 c2 HAR HB HO
      have c0 : w4.cell? ⟨bx, 0, none⟩ = some (.int .i64 g.w) := HB4.out.cell rfl
      have c1 : w4.cell? ⟨bx, 1, none⟩ = some (.int .i64 g.i) := HB4.out.cell rfl
      have c2 : w4.cell? ⟨bx, 2, none⟩ = some (.int .i64 g.b) := HB4.out.cell rfl
      have hI4 := ints_up HU4.out HBO.out HI3.out
      have hI5 : Ints n₀ .u64 w4 (some ⟨b, off + q, none⟩) (areaL ws k) := by
        unfold areaL
        rw [← HQ.out]
        exact (hI4.drop q).take 208
      have hle4 : n₀ ≤ w4.heap.size := Nat.le_trans hn₀ (Nat.le_trans HN3.out.b.size HU4.out.size)
      have HCM : Hid (∀ W, Nw w4 W → Calls Tryz.prog 66 #[.agg #[.int .i64 g.w, .int .i64 g.i, .int .i64 g.b], .slice (some ⟨b, off + q, none⟩) 208 (c - q)] W (ComR g (areaL ws k) W)) := fun W k' =>
        committed_any g b (off + q) (c - q) n₀ (areaL ws k) HAL.out (by omega) (fun x hx => HU.out x (areaL_mem hx)) W (Nat.le_trans hle4 k'.b.size) (hI5.below (k'.b.mono hle4))
      have hwr : IntKind.i64.wrap ((q : Int) + 208) = (q : Int) + 208 := IntWalk.i64_in _ (by omega)
      have hs1 : (0 : Int) ≤ (q : Int) := by omega
      have hs2 : (q : Int) ≤ (q : Int) + 208 := by omega
      have hs3 : (q : Int) + 208 ≤ (c : Int) := by omega
      have hs4 : (0 : Int) ≤ (q : Int) + 208 := by omega
      have hs5 : ¬ (c = q) := by omega
      have hs6 : ((q : Int) + 208).toNat - q = 208 := by omega
      clear hI4 hI5 hle4
      have HK9 : Hid (∀ W, Nw w4 W → W.cell? ⟨bx, 0, none⟩ = some (.int .i64 g.w) ∧ W.cell? ⟨bx, 1, none⟩ = some (.int .i64 g.i) ∧ W.cell? ⟨bx, 2, none⟩ = some (.int .i64 g.b) ∧ Nw w4 W) :=
        fun W k => ⟨(HB4.out.nw k).cell rfl, (HB4.out.nw k).cell rfl, (HB4.out.nw k).cell rfl, k⟩
      go_wp2_with fail
      go_region_held3 (fun w' => w'.cell? ⟨bx, 0, none⟩ = some (.int .i64 g.w) ∧ w'.cell? ⟨bx, 1, none⟩ = some (.int .i64 g.i) ∧ w'.cell? ⟨bx, 2, none⟩ = some (.int .i64 g.b) ∧ Nw w4 w')
        (first | (exact ⟨c0, c1, c2, Nw.refl.drew⟩) | (exact HK9.out _ hk9))
        ((go_at_call 66; (with_reducible refine (HCM.out _ Nw.refl.drew).mono ?_); rintro e w5 ⟨la, ln, lc, rfl, hlc, hcm, hn5, hf5⟩; have hk9 := Nw.refl.drew.trans hn5))
      have HB5 := Lib.hid (HB4.out.nw hk9)
      have HO5 := Lib.hid (HO4.out.nw hk9)
      have HU5 := Lib.hid (HU4.out.nw hk9)
      have HCO := Lib.hid hcm
      have HF5 := Lib.hid (fun (p : Addr) (hp : la = some p) => (show p.block ≠ bo from fun h => absurd (hf5 p hp) (by rw [h]; exact Nat.not_le.2 HO4.out.ty.lt)))
      have HST : Hid (ovTo g ws (k + 1) = putsL (ovTo g ws k) (comL g (areaL ws k))) := rfl
      clear hk9 hcm hf5 hn5 c0 c1 c2 HCM HK9 HO4 hs1 hs2 hs3 hs4 hs5 hs6 hwr
      cases hco5 : comOk g (areaL ws k)
      · have HNO := Lib.hid (comL_no hco5)
        clear hco5
        go_wp2_with fail
        go_roundw
        case rel => exact ⟨k + 1, by omega, by go_num, HB5.out, by rw [HST.out, HNO.out]; exact HO5.out, HU5.out⟩
        case measure => simp [intOf]; omega
      · obtain ⟨h1, hP⟩ := HCO.out hco5
        have hl9 := comL_le g (areaL ws k)
        have HIN := Lib.hid (fun (x : Wr) (hx : x ∈ comL g (areaL ws k)) => comL_in hx)
        rw [HV.out] at HIN
        have HAP := Lib.hid (apply_any' bo n co (ovTo g ws k) (by rw [ovTo_len, HX.out]) hco la ln lc w5.heap.size (comL g (areaL ws k)) h1.symm (by omega) (fun x hx => ⟨(HIN.out x hx).1, by have := (HIN.out x hx).2; omega⟩) w5 (Nat.le_refl _) HO5.out hP HF5.out)
        clear hco5 h1 hP hl9 HIN
        go_wp2_with fail
        refine HAP.out.mono ?_
        rintro e w6 ⟨rfl, ho6, hu6⟩
        have HO6 := Lib.hid ho6
        have HU6 := Lib.hid (HU5.out.trans hu6)
        have HB6 := Lib.hid (HB5.out.up hu6 (HB5.out.tag.ne HO5.out.ty (by decide)))
        clear ho6 hu6 HAP
        go_wp2_with fail
        go_roundw
        case rel => exact ⟨k + 1, by omega, by go_num, HB6.out, by rw [HST.out]; exact HO6.out, HU6.out⟩
        case measure => simp [intOf]; omega
    · have HGT := Lib.hid (show g.w.toNat = k by omega)
      go_wp2_with fail
      clear c0 c1 c2
      go_loopw [52] (fun v wr => ∃ j : Nat, (j : Int) ≤ g.w ∧ v = .int .i64 j ∧ Blk wr bx #[.int .i64 g.w, .int .i64 g.i, .int .i64 g.b] 26 ∧ OutAt wr bo (clr (ovTo g ws k) (264 + 208 * j)) ∧ Up bo w3 wr) (fun v _ => k - (intOf v).toNat)
      case atStart => exact ⟨0, by omega, rfl, HB.out, by rw [clr_none]; exact HO.out, HU'.out⟩
      case round =>
        clear HB HO HU'
        obtain ⟨j, hj, rfl, hb, ho, hup⟩ := hrel
        have HB := Lib.hid hb
        have HO := Lib.hid ho
        have HU' := Lib.hid hup
        clear hb ho hup
        have c0 : wr.cell? ⟨bx, 0, none⟩ = some (.int .i64 g.w) := HB.out.cell rfl
        have c1 : wr.cell? ⟨bx, 1, none⟩ = some (.int .i64 g.i) := HB.out.cell rfl
        have c2 : wr.cell? ⟨bx, 2, none⟩ = some (.int .i64 g.b) := HB.out.cell rfl
        by_cases hjk : (j : Int) < g.w
        · obtain ⟨hq1, hq2⟩ := ov_words HOK.out j hjk
          obtain ⟨q, hq⟩ : ∃ q : Nat, q = 264 + 208 * j := ⟨_, rfl⟩
          have HAR := Lib.hid (area_at g j (w0 := wr) (w := wr) At.refl)
          rw [hq2, show (264 + 208 * (j : Int)) = ((q : Nat) : Int) by omega] at HAR
          unfold gV at HAR
          have HQ := Lib.hid hq
          have hq3 : q + 208 ≤ n := by omega
          clear hq hq1 hq2
          go_wp2_with fail
          refine HAR.out.mono ?_
          rintro e w4 ⟨rfl, h4⟩
          have HB4 := Lib.hid (HB.out.nw h4.nw)
          have HO4 := Lib.hid (HO.out.nw h4.nw)
          have HU4 := Lib.hid (HU'.out.nw h4.nw)
          clear h4 c0 c1 c2 HAR HB HO
          have HLN := Lib.hid (show (clr (ovTo g ws k) (264 + 208 * j)).length = n by rw [clr_len, ovTo_len, HX.out])
          have HCB := Lib.hid (HO4.out.clear q 208 (by rw [HLN.out]; exact hq3) (clr (ovTo g ws k) (264 + 208 * (j + 1))) (by rw [clr_len, clr_len]) (fun i hi => by
            rw [show 264 + 208 * (j + 1) = q + 208 by have := HQ.out; omega, ← HQ.out]
            exact clr_block (ovTo g ws k) q (by have := HQ.out; omega) 208 i (by rw [clr_len] at hi; exact hi)))
          have HSO : Hid (∀ i, i < 208 → (w4.cell? ⟨bo, q + i, none⟩).isSome = true) := fun i hi => by rw [HO4.out.at_ (q + i) (by rw [HLN.out]; omega)]; rfl
          have hwr : IntKind.i64.wrap ((q : Int) + 208) = (q : Int) + 208 := IntWalk.i64_in _ (by omega)
          have hs1 : (0 : Int) ≤ (q : Int) := by omega
          have hs2 : (q : Int) ≤ (q : Int) + 208 := by omega
          have hs3 : (q : Int) + 208 ≤ (co : Int) := by omega
          have hs4 : (0 : Int) ≤ (q : Int) + 208 := by omega
          have hs5 : ¬ (co = q) := by omega
          have hs6 : ((q : Int) + 208).toNat - q = 208 := by omega
          have HZZ : Hid (ClrZ bo (clr (ovTo g ws k) (264 + 208 * (j + 1))) w4 (w4.setCells bo q (List.replicate 208 (.int .u64 0)))) := ⟨HCB.out, setCells_upU _ _ _ bo q (Up.refl bo w4)⟩
          have HFR : Hid (∀ i, w4.frozen? ⟨bo, i, none⟩ = false) := HO4.out.ty.frozen
          have HP8 : Hid ((0 : Nat) < 208) := by unfold Hid; decide
          clear HCB
          go_wp2_with ((with_reducible refine wpList_clear_z rfl (.tmp 62) 33 44 rfl Tryz.underlying33 zero_u64 bo q 208 (co - q) rfl HP8.out HSO.out HFR.out (ClrZ bo (clr (ovTo g ws k) (264 + 208 * (j + 1))) w4) HZZ.out ?_); rintro w5 ⟨ho5, hu5⟩; have HO5 := Lib.hid ho5; have HU5 := Lib.hid (HU4.out.trans hu5); have HB5 := Lib.hid (HB4.out.up hu5 (HB4.out.tag.ne HO4.out.ty (by decide))); clear ho5 hu5)
          clear HO4 HLN HSO HP8 hs1 hs2 hs3 hs4 hs5 hs6 hwr HZZ HFR
          go_wp2_with fail
          go_roundw
          case rel => exact ⟨j + 1, by omega, by go_num, HB5.out, HO5.out, HU5.out⟩
          case measure => simp [intOf]; omega
        · obtain rfl : j = k := by omega
          go_wp2_with fail
          go_ret
          rw [HGT.out]
          have hlen : (clr (ovTo g ws j) (264 + 208 * j)).length = n := by rw [clr_len, ovTo_len, HX.out]
          refine ⟨_, co, by rw [hlen]; rfl, by rw [hlen]; exact hco, HO.out.ints, ⟨Up.below HN3.out.b HU'.out HN3.out.b.size (by rw [HBX.out]; rw [HBX.out] at HBW; exact HBW.out)⟩, .inr ⟨_, _, rfl⟩⟩
end Go.Proofs.YtkopfnldgnkkoaaGreat
