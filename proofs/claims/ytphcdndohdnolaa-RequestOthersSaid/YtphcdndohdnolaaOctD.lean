/-
  THE WALK OF octet.number.
-/
import Derived.Test.YtphcdndohdnolaaOctC
import Derived.Laws.BitsAllLaws
namespace Go.Proofs.Ytphcdndohdnolaa
open Go.RowKit Go.Shelf
attribute [local go_sem] Oper.semAt_some

set_option maxHeartbeats 1000000 in
theorem octet_in (F : Fence) (n : Nat) (h5 : F.fn 38) (hro : F.round = none) (a : Option Addr) (len cap : Nat) (zs : List Int) (hl : zs.length = len) (hreach : len ≤ 140737488355000) (n₀ : Nat) (w : World) (hI : Ints n₀ .u8 w a zs) :
    CallsIn F n Try.prog 38 #[.slice a len cap] w fun e w' => e = .returned (.tuple #[.int .u8 (zs[0]?.getD 0), .int .i64 (if len = 0 then 0 else 1)]) ∧ w = w' := by
  subst hl
  rcases hI with rfl | ⟨b, off, rfl, hb, hcs⟩
  · refine callsIn_of_wp Try.func38 rfl h5 ?_ hro
    simp only [Try.ntmps38, List.size_toArray, List.length_cons, List.length_nil, Nat.reduceAdd, Nat.reduceSub, Array.replicate_succ, Array.replicate_zero, List.push_toArray, List.append_toArray, List.nil_append, List.cons_append]
    gi_wp2
    refine bodyPost_ret (results_tmp2 rfl _ _ _) rfl ?_
    exact ⟨rfl, rfl⟩
  · by_cases h0 : zs.length = 0
    · have : zs = [] := List.length_eq_zero_iff.1 h0
      subst this
      refine callsIn_of_wp Try.func38 rfl h5 ?_ hro
      simp only [Try.ntmps38, List.size_toArray, List.length_cons, List.length_nil, Nat.reduceAdd, Nat.reduceSub, Array.replicate_succ, Array.replicate_zero, List.push_toArray, List.append_toArray, List.nil_append, List.cons_append]
      gi_wp2
      refine bodyPost_ret (results_tmp2 rfl _ _ _) rfl ?_
      exact ⟨rfl, rfl⟩
    · have hc := hcs 0 (by omega)
      rw [Nat.add_zero] at hc
      have hp : 0 < zs.length := by omega
      have hne : ((zs.length : Int) == 0) = false := by rw [beq_eq_false_iff_ne]; omega
      rw [if_neg h0]
      obtain ⟨x, hx⟩ : ∃ x : Int, zs[0]?.getD 0 = x := ⟨_, rfl⟩
      rw [hx] at hc ⊢
      refine callsIn_of_wp Try.func38 rfl h5 ?_ hro
      simp only [Try.ntmps38, List.size_toArray, List.length_cons, List.length_nil, Nat.reduceAdd, Nat.reduceSub, Array.replicate_succ, Array.replicate_zero, List.push_toArray, List.append_toArray, List.nil_append, List.cons_append]
      gi_wp2
      refine bodyPost_ret (results_tmp2 rfl _ _ _) rfl ?_
      exact ⟨rfl, rfl⟩

/-- What a number's bytes tell, the lowest one first. -/
def valL : List Int → Int
  | [] => 0
  | c :: cs => c + 256 * valL cs
def isByte (x : Int) : Prop := 0 ≤ x ∧ x ≤ 255
def kOf (zs : List Int) : Nat := (zs[0]?.getD 0).toNat
def ownL (zs : List Int) : List Int := (zs.drop 1).take (kOf zs)
def numP (zs : List Int) : Prop := 0 < zs.length ∧ kOf zs ≤ 8 ∧ kOf zs < zs.length ∧ ¬ (0 < kOf zs ∧ zs[kOf zs]?.getD 0 = 0)
instance (zs : List Int) : Decidable (numP zs) := by unfold numP; infer_instance
def numV (zs : List Int) : Int × Int := if numP zs then (valL (ownL zs), 1 + (kOf zs : Int)) else (0, 0)


def accM (ys : List (Int × Int)) : Int := ys.foldl (fun n x => bits .or .u64 (IntKind.u64.wrap (n * 256)) (IntKind.u64.wrap x.2)) 0
theorem accM_snoc (ys : List (Int × Int)) (x : Int × Int) : accM (ys ++ [x]) = bits .or .u64 (IntKind.u64.wrap (accM ys * 256)) (IntKind.u64.wrap x.2) := by simp [accM, List.foldl_append]
theorem or_step (n x : Int) (h0 : 0 ≤ n) (h1 : n < 72057594037927936) (hx : isByte x) : bits .or .u64 (IntKind.u64.wrap (n * 256)) (IntKind.u64.wrap x) = n * 256 + x := by
  obtain ⟨x0, x1⟩ := hx
  obtain ⟨a, rfl⟩ := Int.eq_ofNat_of_zero_le h0
  obtain ⟨b, rfl⟩ := Int.eq_ofNat_of_zero_le x0
  have e1 : IntKind.u64.wrap ((a : Int) * 256) = ((a * 256 : Nat) : Int) := by
    have : IntKind.u64.wrap ((a : Int) * 256) = ((a : Int) * 256) % 18446744073709551616 := by simp [IntKind.wrap, IntKind.bits, IntKind.signed]
    omega
  have e2 : IntKind.u64.wrap (b : Int) = (b : Int) := by
    have : IntKind.u64.wrap (b : Int) = (b : Int) % 18446744073709551616 := by simp [IntKind.wrap, IntKind.bits, IntKind.signed]
    omega
  rw [e1, e2, u64_or_nat _ _ (by omega) (by omega)]
  have := Nat.shiftLeft_add_eq_or_of_lt (i := 8) (b := b) (by omega) a
  rw [Nat.shiftLeft_eq] at this
  have e : a * 256 ||| b = a * 256 + b := this.symm
  rw [e]
  omega

theorem valL_bd (cs : List Int) (h : ∀ x ∈ cs, isByte x) : 0 ≤ valL cs ∧ valL cs < (256 ^ cs.length : Nat) := by
  induction cs with
  | nil => simp [valL]
  | cons c cs ih =>
    obtain ⟨i1, i2⟩ := ih (fun x hx => h x (List.mem_cons_of_mem _ hx))
    obtain ⟨c1, c2⟩ := h c (List.mem_cons_self)
    rw [valL, List.length_cons, Nat.pow_succ]
    omega
theorem acc_upto (own : List Int) (h : ∀ x ∈ own, isByte x) (h8 : own.length ≤ 8) : ∀ k, k ≤ own.length → accM (upto (bkP own own.length) k) = valL (own.drop (own.length - k)) := by
  intro k
  induction k with
  | zero => intro _; simp [upto, accM, valL]
  | succ k ih =>
    intro hk
    have hi := ih (by omega)
    have hd : own.drop (own.length - (k + 1)) = own[own.length - 1 - k] :: own.drop (own.length - k) := by
      rw [show own.length - (k + 1) = own.length - 1 - k by omega, List.drop_eq_getElem_cons (by omega), show own.length - 1 - k + 1 = own.length - k by omega]
    have hg : own[own.length - 1 - k]?.getD 0 = own[own.length - 1 - k] := by rw [List.getElem?_eq_getElem (by omega)]; rfl
    obtain ⟨b1, b2⟩ := valL_bd (own.drop (own.length - k)) (fun x hx => h x (List.mem_of_mem_drop hx))
    have hl : (own.drop (own.length - k)).length = k := by simp; omega
    rw [hl] at b2
    have hp : 256 ^ k ≤ 256 ^ 7 := Nat.pow_le_pow_right (by decide) (by omega)
    have h7 : (256 : Nat) ^ 7 = 72057594037927936 := by decide
    rw [upto_succ, accM_snoc, hi, hd, valL]
    unfold bkP
    dsimp only
    rw [hg, or_step _ _ b1 (by omega) (h _ (List.getElem_mem _))]
    omega
theorem acc_all (own : List Int) (h : ∀ x ∈ own, isByte x) (h8 : own.length ≤ 8) : accM (bkL own) = valL own := by
  unfold bkL
  rw [acc_upto own h h8 _ (Nat.le_refl _)]; simp

set_option maxRecDepth 100000 in
set_option maxHeartbeats 2000000 in
theorem number_go (b off len cap : Nat) (zs : List Int) (hl : zs.length = len) (hreach : len ≤ 140737488355000) (hcap : len ≤ cap) (hz : ∀ x ∈ zs, isByte x) (w : World) (hbn : b < w.heap.size) (hcs : ∀ j, j < zs.length → w.cell? ⟨b, off + j, none⟩ = some (.int .u8 (zs[j]?.getD 0)))
    (hp : 0 < len) (k : Nat) (hk : zs[0]?.getD 0 = (k : Int)) (hk8 : k ≤ 8) (hkl : k < len) (hcap1 : cap ≠ 1) :
    Calls Try.prog 56 #[.slice (some ⟨b, off, none⟩) len cap] w fun e W' => e = .returned (.tuple #[.int .u64 (numV zs).1, .int .i64 (numV zs).2]) ∧ Nw w W' := by
  have HL := Lib.hid hl
  obtain ⟨own, hownd⟩ : ∃ own, (zs.drop 1).take k = own := ⟨_, rfl⟩
  have hown : own.length = k := by rw [← hownd]; simp; omega
  have hIo : Ints w.heap.size .u8 w (some ⟨b, off + 1, none⟩) own := .inr ⟨b, off + 1, rfl, hbn, fun j hj => by
    have := hcs (1 + j) (by omega)
    rw [← Nat.add_assoc] at this
    rw [this, ← hownd]; simp [show j < k by omega, Nat.add_comm 1 j]⟩
  have hkz : kOf zs = k := by unfold kOf; rw [hk]; rfl
  have hbo : ∀ x ∈ own, isByte x := fun x hx => by rw [← hownd] at hx; exact hz x (List.mem_of_mem_drop (List.mem_of_mem_take hx))
  refine (callsIn_wide (n := 5)).1 ?_
  refine callsIn_of_wp_marks Try.func56 rfl trivial ?_ rfl
  simp only [Try.ntmps56, List.size_toArray, List.length_cons, List.length_nil, Nat.reduceAdd, Nat.reduceSub, Array.replicate_succ, Array.replicate_zero, List.push_toArray, List.append_toArray, List.nil_append, List.cons_append]
  have hIa : Ints w.heap.size .u8 (w.alloc (.cells #[.int .u64 0] 22)) (some ⟨b, off, none⟩) zs := Ints.below ((Below.refl w.heap.size w).alloc (Nat.le_refl _) _) (.inr ⟨b, off, rfl, hbn, hcs⟩)
  have hn0 : ¬ len = 0 := by omega
  have hd1 : decide (8 < (k : Int)) = false := by simp; omega
  have hd2 : decide (len ≤ k) = false := by simp; omega
  have hkc : k + 1 ≤ cap := by omega
  gi_wp2_with (first | (refine ⟨trivial, ?_⟩; gi_at_call 38; refine (octet_in Fence.wide _ trivial rfl (some ⟨b, off, none⟩) len cap zs HL.out hreach w.heap.size _ hIa).mono ?_; rintro e w' ⟨rfl, rfl⟩; rw [hk, if_neg hn0]) | (refine ⟨trivial, ?_⟩; gi_at_call 59; refine (backward_in Fence.wide _ trivial rfl _ _ _ _).mono ?_; rintro e w' ⟨rfl, rfl⟩))
  have bN : ((w.alloc (.cells #[.int .u64 0] 22)).alloc (.cells #[.slice (some ⟨b, off + 1, none⟩) k (cap - 1)] 25)).cell? ⟨w.heap.size, 0, none⟩ = some (.int .u64 (accM [])) := by simp [go_sem, accM]
  have bF : ((w.alloc (.cells #[.int .u64 0] 22)).alloc (.cells #[.slice (some ⟨b, off + 1, none⟩) k (cap - 1)] 25)).frozen? ⟨w.heap.size, 0, none⟩ = false := by simp [go_sem]
  have bS : ((w.alloc (.cells #[.int .u64 0] 22)).alloc (.cells #[.slice (some ⟨b, off + 1, none⟩) k (cap - 1)] 25)).cell? ⟨w.heap.size + 1, 0, none⟩ = some (.slice (some ⟨b, off + 1, none⟩) own.length (cap - 1)) := by simp [go_sem, hown]
  have hB0 : Below w.heap.size w ((w.alloc (.cells #[.int .u64 0] 22)).alloc (.cells #[.slice (some ⟨b, off + 1, none⟩) k (cap - 1)] 25)) := ((Below.refl _ w).alloc (Nat.le_refl _) _).alloc (by simp) _
  have hz0 : w.heap.size + 1 < ((w.alloc (.cells #[.int .u64 0] 22)).alloc (.cells #[.slice (some ⟨b, off + 1, none⟩) k (cap - 1)] 25)).heap.size := by simp
  generalize ((w.alloc (.cells #[.int .u64 0] 22)).alloc (.cells #[.slice (some ⟨b, off + 1, none⟩) k (cap - 1)] 25)) = w0 at *
  have hI0 : Ints w.heap.size .u8 w0 (some ⟨b, off + 1, none⟩) own := Ints.below hB0 hIo
  refine wpIn_rangeFunc_ownG rfl (by omega) (gf := 60) (lb := #[.pointer (some ⟨w.heap.size + 1, 0, none⟩)]) rfl trivial (enters_of Try.func60 (by kernel_rfl) rfl)
    (backward_stops Fence.wide _ trivial rfl (by omega) (w.heap.size + 1) w.heap.size (cap - 1) (some ⟨b, off + 1, none⟩) own (by omega) w0 hz0 (Nat.le_of_lt (by omega)) bS hI0) (fun h k => h.trans k) (fun W l o o' h1 h2 h3 h4 => ⟨belowK_b (by omega) W l o o' h1 h2 h3 h4, World.putObj_heap_other (by omega)⟩) (Below.refl _ _) (fun _ => rfl)
    (fun pre W => (W.cell? ⟨w.heap.size, 0, none⟩ = some (.int .u64 (accM pre)) ∧ W.frozen? ⟨w.heap.size, 0, none⟩ = false) ∧ Below w.heap.size w W)
    (fun _ _ _ => False)
    (OwnFrom.and (Own.from (fun s A B row hs hg hr => ⟨cell_kept hs.1 hg hr, (frozen_kept hs.1 hg hr).trans hs.2⟩) _) (ownFrom_below (Nat.le_refl _) (by omega)))
    (fun _ _ _ _ _ hs _ _ => hs)
    ⟨⟨bN, bF⟩, hB0⟩
    (fun x => { tmps := #[.slice (some ⟨b, off, none⟩) len cap, undef, .pointer (some ⟨w.heap.size, 0, none⟩), .int .i64 0, .int .u8 (k : Int), .int .i64 1, .slice (some ⟨b, off + 1, none⟩) k (cap - 1), undef, .int .u8 x.2, .tuple #[.int .u8 (k : Int), .int .i64 1], .slice (some ⟨b, off, none⟩) len cap, .tuple #[.int .u8 (k : Int), .int .i64 1], .int .u8 (k : Int), .int .i64 1, .int .i64 1, .bool false, .bool false, .int .u8 (k : Int), .bool false, .bool false, .bool false, .int .u8 (k : Int), .int .i64 (k : Int), .slice (some ⟨b, off, none⟩) len cap, .int .i64 (len : Int), .bool false, .bool false, .slice (some ⟨b, off, none⟩) len cap, .int .u8 (k : Int), .int .u8 (1 + (k : Int)), .slice (some ⟨b, off + 1, none⟩) k (cap - 1), .slice (some ⟨b, off + 1, none⟩) k (cap - 1), .func (.func 60) #[] #[.pointer (some ⟨w.heap.size + 1, 0, none⟩)], .int .i64 x.1, .int .u8 x.2, undef, undef, undef, undef, undef, undef, undef, undef, undef, undef, undef, undef, undef, undef, undef, undef, undef, undef, undef], defers := [] }) ?assign ?body ?done ?stop
  case assign =>
    intro l x W K hK
    gi_wp2
    exact hK
  case body =>
    rintro l pre x W ⟨⟨hc, hf⟩, hB⟩ _
    gi_wp2
    rw [show bits .or .u64 (IntKind.u64.wrap (accM pre * 256)) (IntKind.u64.wrap x.2) = accM (pre ++ [x]) from (accM_snoc _ _).symm]
    exact ⟨(KeepsOthers.setCell _ _ _).from _, ⟨(Below.refl w.heap.size W).setCell (p := ⟨w.heap.size, 0, none⟩) (Nat.le_refl _) _, Below.heap_setCell W _ _ _ (by simp)⟩, ⟨World.cell?_setCell_same' _ _ _ (by rw [hc]; rfl), by rw [World.frozen?_setCell]; exact hf⟩, hB.setCell (p := ⟨w.heap.size, 0, none⟩) (Nat.le_refl _) _⟩
  case done =>
    rintro D ys W hD rfl ⟨⟨hc, hf⟩, hB⟩ hK
    rw [acc_all own hbo (by omega)] at hc
    have hIw := Ints.below hB hIo
    have hne0 : D ≠ w.heap.size := by omega
    by_cases k0 : k = 0
    · have hd3 : decide (0 < (k : Int)) = false := by simp; omega
      have HN : numV zs = (valL own, 1 + (k : Int)) := by
        unfold numV; rw [if_pos ⟨by omega, by rw [hkz]; exact hk8, by rw [hkz]; omega, by rw [hkz]; omega⟩, hkz, ← hownd]; unfold ownL; rw [hkz]
      gi_wp2
      have hK2 := (Below.heap_setCell W ⟨w.heap.size, 0, none⟩ (.int .u64 (valL own)) D hne0).trans hK
      refine ⟨by simp, .inl ⟨_, _, rfl, run_takeDeferred hK2, ?_⟩⟩
      have hB2 : Below w.heap.size w ((W.setCell ⟨w.heap.size, 0, none⟩ (.int .u64 (valL own))).putObj D (.deferred none)) := (hB.setCell (p := ⟨w.heap.size, 0, none⟩) (Nat.le_refl _) _).trans (belowK_b (w := w) (Nat.le_refl _) _ D _ _ (by omega) hK2 rfl rfl)
      have hc2 : ((W.setCell ⟨w.heap.size, 0, none⟩ (.int .u64 (valL own))).putObj D (.deferred none)).cell? ⟨w.heap.size, 0, none⟩ = some (.int .u64 (valL own)) := by
        have e1 := World.cell?_setCell_same' W ⟨w.heap.size, 0, none⟩ (.int .u64 (valL own)) (by rw [hc]; rfl)
        unfold World.cell? at e1 ⊢
        rw [World.putObj_heap_other (Ne.symm hne0)]
        exact e1
      generalize (W.setCell ⟨w.heap.size, 0, none⟩ (.int .u64 (valL own))).putObj D (.deferred none) = W9 at *
      exact ⟨.tuple #[.int .u64 (valL own), .int .i64 1], by simp [results, Try.f56, go_sem, hc2], by rw [HN, k0]; rfl, ⟨hB2⟩⟩
    · have hd3 : decide (0 < (k : Int)) = true := by simp; omega
      have hx : W.cell? ⟨b, off + 1 + (k - 1), none⟩ = some (.int .u8 (zs[k]?.getD 0)) := by
        have := (hB.cell (p := ⟨b, off + k, none⟩) hbn).trans (hcs k (by omega))
        rw [show off + 1 + (k - 1) = off + k by omega]; exact this
      obtain ⟨x, hxx⟩ : ∃ x : Int, zs[k]?.getD 0 = x := ⟨_, rfl⟩
      rw [hxx] at hx
      have hk1 : k - 1 < k := by omega
      have hk2 : (k : Int) - 1 = ((k - 1 : Nat) : Int) := by omega
      cases hx0 : (x == 0)
      · have HN : numV zs = (valL own, 1 + (k : Int)) := by
          have hxn : x ≠ 0 := by simpa using hx0
          unfold numV; rw [if_pos ⟨by omega, by rw [hkz]; exact hk8, by rw [hkz]; omega, by rw [hkz, hxx]; exact fun h => hxn h.2⟩, hkz, ← hownd]; unfold ownL; rw [hkz]
        gi_wp2
        have hK2 := (Below.heap_setCell W ⟨w.heap.size, 0, none⟩ (.int .u64 (valL own)) D hne0).trans hK
        refine ⟨by simp, .inl ⟨_, _, rfl, run_takeDeferred hK2, ?_⟩⟩
        have hB2 : Below w.heap.size w ((W.setCell ⟨w.heap.size, 0, none⟩ (.int .u64 (valL own))).putObj D (.deferred none)) := (hB.setCell (p := ⟨w.heap.size, 0, none⟩) (Nat.le_refl _) _).trans (belowK_b (w := w) (Nat.le_refl _) _ D _ _ (by omega) hK2 rfl rfl)
        have hc2 : ((W.setCell ⟨w.heap.size, 0, none⟩ (.int .u64 (valL own))).putObj D (.deferred none)).cell? ⟨w.heap.size, 0, none⟩ = some (.int .u64 (valL own)) := by
          have e1 := World.cell?_setCell_same' W ⟨w.heap.size, 0, none⟩ (.int .u64 (valL own)) (by rw [hc]; rfl)
          unfold World.cell? at e1 ⊢
          rw [World.putObj_heap_other (Ne.symm hne0)]
          exact e1
        generalize (W.setCell ⟨w.heap.size, 0, none⟩ (.int .u64 (valL own))).putObj D (.deferred none) = W9 at *
        exact ⟨.tuple #[.int .u64 (valL own), .int .i64 (1 + (k : Int))], by simp [results, Try.f56, go_sem, hc2], by rw [HN], ⟨hB2⟩⟩
      · have HN : numV zs = (0, 0) := by
          have hxn : x = 0 := by simpa using hx0
          unfold numV; rw [if_neg (fun h => h.2.2.2 (by rw [hkz, hxx]; exact ⟨by omega, hxn⟩))]
        gi_wp2
        have hK2 := (Below.heap_setCell W ⟨w.heap.size, 0, none⟩ (.int .u64 0) D hne0).trans hK
        refine ⟨by simp, .inl ⟨_, _, rfl, run_takeDeferred hK2, ?_⟩⟩
        have hB2 : Below w.heap.size w ((W.setCell ⟨w.heap.size, 0, none⟩ (.int .u64 0)).putObj D (.deferred none)) := (hB.setCell (p := ⟨w.heap.size, 0, none⟩) (Nat.le_refl _) _).trans (belowK_b (w := w) (Nat.le_refl _) _ D _ _ (by omega) hK2 rfl rfl)
        have hc2 : ((W.setCell ⟨w.heap.size, 0, none⟩ (.int .u64 0)).putObj D (.deferred none)).cell? ⟨w.heap.size, 0, none⟩ = some (.int .u64 0) := by
          have e1 := World.cell?_setCell_same' W ⟨w.heap.size, 0, none⟩ (.int .u64 0) (by rw [hc]; rfl)
          unfold World.cell? at e1 ⊢
          rw [World.putObj_heap_other (Ne.symm hne0)]
          exact e1
        generalize (W.setCell ⟨w.heap.size, 0, none⟩ (.int .u64 0)).putObj D (.deferred none) = W9 at *
        exact ⟨.tuple #[.int .u64 0, .int .i64 0], by simp [results, Try.f56, go_sem, hc2], by rw [HN], ⟨hB2⟩⟩
  case stop =>
    rintro D c pre W _ _ h _
    exact h.elim

set_option maxRecDepth 100000 in
set_option maxHeartbeats 2000000 in
theorem number_go1 (b off len : Nat) (zs : List Int) (hl : zs.length = len) (hreach : len ≤ 140737488355000) (hcap : len ≤ 1) (hz : ∀ x ∈ zs, isByte x) (w : World) (hbn : b < w.heap.size) (hcs : ∀ j, j < zs.length → w.cell? ⟨b, off + j, none⟩ = some (.int .u8 (zs[j]?.getD 0)))
    (hp : 0 < len) (k : Nat) (hk : zs[0]?.getD 0 = (k : Int)) (hk8 : k ≤ 8) (hkl : k < len) :
    Calls Try.prog 56 #[.slice (some ⟨b, off, none⟩) len 1] w fun e W' => e = .returned (.tuple #[.int .u64 (numV zs).1, .int .i64 (numV zs).2]) ∧ Nw w W' := by
  have HL := Lib.hid hl
  obtain ⟨own, hownd⟩ : ∃ own, (zs.drop 1).take k = own := ⟨_, rfl⟩
  have hown : own.length = k := by rw [← hownd]; simp; omega
  have hIo : Ints w.heap.size .u8 w (some ⟨b, off, none⟩) own := .inl (List.length_eq_zero_iff.1 (by omega))
  have hkz : kOf zs = k := by unfold kOf; rw [hk]; rfl
  have hbo : ∀ x ∈ own, isByte x := fun x hx => by rw [← hownd] at hx; exact hz x (List.mem_of_mem_drop (List.mem_of_mem_take hx))
  refine (callsIn_wide (n := 5)).1 ?_
  refine callsIn_of_wp_marks Try.func56 rfl trivial ?_ rfl
  simp only [Try.ntmps56, List.size_toArray, List.length_cons, List.length_nil, Nat.reduceAdd, Nat.reduceSub, Array.replicate_succ, Array.replicate_zero, List.push_toArray, List.append_toArray, List.nil_append, List.cons_append]
  have hIa : Ints w.heap.size .u8 (w.alloc (.cells #[.int .u64 0] 22)) (some ⟨b, off, none⟩) zs := Ints.below ((Below.refl w.heap.size w).alloc (Nat.le_refl _) _) (.inr ⟨b, off, rfl, hbn, hcs⟩)
  have hn0 : ¬ len = 0 := by omega
  have hd1 : decide (8 < (k : Int)) = false := by simp; omega
  have hd2 : decide (len ≤ k) = false := by simp; omega
  have hkc : k + 1 ≤ 1 := by omega
  gi_wp2_with (first | (refine ⟨trivial, ?_⟩; gi_at_call 38; refine (octet_in Fence.wide _ trivial rfl (some ⟨b, off, none⟩) len 1 zs HL.out hreach w.heap.size _ hIa).mono ?_; rintro e w' ⟨rfl, rfl⟩; rw [hk, if_neg hn0]) | (refine ⟨trivial, ?_⟩; gi_at_call 59; refine (backward_in Fence.wide _ trivial rfl _ _ _ _).mono ?_; rintro e w' ⟨rfl, rfl⟩))
  have bN : ((w.alloc (.cells #[.int .u64 0] 22)).alloc (.cells #[.slice (some ⟨b, off, none⟩) k 0] 25)).cell? ⟨w.heap.size, 0, none⟩ = some (.int .u64 (accM [])) := by simp [go_sem, accM]
  have bF : ((w.alloc (.cells #[.int .u64 0] 22)).alloc (.cells #[.slice (some ⟨b, off, none⟩) k 0] 25)).frozen? ⟨w.heap.size, 0, none⟩ = false := by simp [go_sem]
  have bS : ((w.alloc (.cells #[.int .u64 0] 22)).alloc (.cells #[.slice (some ⟨b, off, none⟩) k 0] 25)).cell? ⟨w.heap.size + 1, 0, none⟩ = some (.slice (some ⟨b, off, none⟩) own.length 0) := by simp [go_sem, hown]
  have hB0 : Below w.heap.size w ((w.alloc (.cells #[.int .u64 0] 22)).alloc (.cells #[.slice (some ⟨b, off, none⟩) k 0] 25)) := ((Below.refl _ w).alloc (Nat.le_refl _) _).alloc (by simp) _
  have hz0 : w.heap.size + 1 < ((w.alloc (.cells #[.int .u64 0] 22)).alloc (.cells #[.slice (some ⟨b, off, none⟩) k 0] 25)).heap.size := by simp
  generalize ((w.alloc (.cells #[.int .u64 0] 22)).alloc (.cells #[.slice (some ⟨b, off, none⟩) k 0] 25)) = w0 at *
  have hI0 : Ints w.heap.size .u8 w0 (some ⟨b, off, none⟩) own := Ints.below hB0 hIo
  refine wpIn_rangeFunc_ownG rfl (by omega) (gf := 60) (lb := #[.pointer (some ⟨w.heap.size + 1, 0, none⟩)]) rfl trivial (enters_of Try.func60 (by kernel_rfl) rfl)
    (backward_stops Fence.wide _ trivial rfl (by omega) (w.heap.size + 1) w.heap.size 0 (some ⟨b, off, none⟩) own (by omega) w0 hz0 (Nat.le_of_lt (by omega)) bS hI0) (fun h k => h.trans k) (fun W l o o' h1 h2 h3 h4 => ⟨belowK_b (by omega) W l o o' h1 h2 h3 h4, World.putObj_heap_other (by omega)⟩) (Below.refl _ _) (fun _ => rfl)
    (fun pre W => (W.cell? ⟨w.heap.size, 0, none⟩ = some (.int .u64 (accM pre)) ∧ W.frozen? ⟨w.heap.size, 0, none⟩ = false) ∧ Below w.heap.size w W)
    (fun _ _ _ => False)
    (OwnFrom.and (Own.from (fun s A B row hs hg hr => ⟨cell_kept hs.1 hg hr, (frozen_kept hs.1 hg hr).trans hs.2⟩) _) (ownFrom_below (Nat.le_refl _) (by omega)))
    (fun _ _ _ _ _ hs _ _ => hs)
    ⟨⟨bN, bF⟩, hB0⟩
    (fun x => { tmps := #[.slice (some ⟨b, off, none⟩) len 1, undef, .pointer (some ⟨w.heap.size, 0, none⟩), .int .i64 0, .int .u8 (k : Int), .int .i64 1, .slice (some ⟨b, off, none⟩) k 0, undef, .int .u8 x.2, .tuple #[.int .u8 (k : Int), .int .i64 1], .slice (some ⟨b, off, none⟩) len 1, .tuple #[.int .u8 (k : Int), .int .i64 1], .int .u8 (k : Int), .int .i64 1, .int .i64 1, .bool false, .bool false, .int .u8 (k : Int), .bool false, .bool false, .bool false, .int .u8 (k : Int), .int .i64 (k : Int), .slice (some ⟨b, off, none⟩) len 1, .int .i64 (len : Int), .bool false, .bool false, .slice (some ⟨b, off, none⟩) len 1, .int .u8 (k : Int), .int .u8 (1 + (k : Int)), .slice (some ⟨b, off, none⟩) k 0, .slice (some ⟨b, off, none⟩) k 0, .func (.func 60) #[] #[.pointer (some ⟨w.heap.size + 1, 0, none⟩)], .int .i64 x.1, .int .u8 x.2, undef, undef, undef, undef, undef, undef, undef, undef, undef, undef, undef, undef, undef, undef, undef, undef, undef, undef, undef], defers := [] }) ?assign ?body ?done ?stop
  case assign =>
    intro l x W K hK
    gi_wp2
    exact hK
  case body =>
    intro l pre x W _ hlt
    exact absurd hlt (by omega)
  case done =>
    rintro D ys W hD rfl ⟨⟨hc, hf⟩, hB⟩ hK
    rw [acc_all own hbo (by omega)] at hc
    have hIw := Ints.below hB hIo
    have hne0 : D ≠ w.heap.size := by omega
    by_cases k0 : k = 0
    · have hd3 : decide (0 < (k : Int)) = false := by simp; omega
      have HN : numV zs = (valL own, 1 + (k : Int)) := by
        unfold numV; rw [if_pos ⟨by omega, by rw [hkz]; exact hk8, by rw [hkz]; omega, by rw [hkz]; omega⟩, hkz, ← hownd]; unfold ownL; rw [hkz]
      gi_wp2
      have hK2 := (Below.heap_setCell W ⟨w.heap.size, 0, none⟩ (.int .u64 (valL own)) D hne0).trans hK
      refine ⟨by simp, .inl ⟨_, _, rfl, run_takeDeferred hK2, ?_⟩⟩
      have hB2 : Below w.heap.size w ((W.setCell ⟨w.heap.size, 0, none⟩ (.int .u64 (valL own))).putObj D (.deferred none)) := (hB.setCell (p := ⟨w.heap.size, 0, none⟩) (Nat.le_refl _) _).trans (belowK_b (w := w) (Nat.le_refl _) _ D _ _ (by omega) hK2 rfl rfl)
      have hc2 : ((W.setCell ⟨w.heap.size, 0, none⟩ (.int .u64 (valL own))).putObj D (.deferred none)).cell? ⟨w.heap.size, 0, none⟩ = some (.int .u64 (valL own)) := by
        have e1 := World.cell?_setCell_same' W ⟨w.heap.size, 0, none⟩ (.int .u64 (valL own)) (by rw [hc]; rfl)
        unfold World.cell? at e1 ⊢
        rw [World.putObj_heap_other (Ne.symm hne0)]
        exact e1
      generalize (W.setCell ⟨w.heap.size, 0, none⟩ (.int .u64 (valL own))).putObj D (.deferred none) = W9 at *
      exact ⟨.tuple #[.int .u64 (valL own), .int .i64 1], by simp [results, Try.f56, go_sem, hc2], by rw [HN, k0]; rfl, ⟨hB2⟩⟩
    · exact absurd (by omega) k0
  case stop =>
    rintro D c pre W _ _ h _
    exact h.elim

set_option maxHeartbeats 1000000 in
/-- **octet.number**: what it tells. -/
theorem number_of (a : Option Addr) (len cap : Nat) (zs : List Int) (hl : zs.length = len) (hreach : len ≤ 140737488355000) (hcap : len ≤ cap) (hz : ∀ x ∈ zs, isByte x) (w : World) (hI : Ints w.heap.size .u8 w a zs) :
    Calls Try.prog 56 #[.slice a len cap] w fun e W' => e = .returned (.tuple #[.int .u64 (numV zs).1, .int .i64 (numV zs).2]) ∧ Nw w W' := by
  have hIa : Ints w.heap.size .u8 (w.alloc (.cells #[.int .u64 0] 22)) a zs := hI.below ((Below.refl w.heap.size w).alloc (Nat.le_refl _) _)
  obtain ⟨k, hk⟩ : ∃ k : Nat, zs[0]?.getD 0 = (k : Int) := by
    cases zs with
    | nil => exact ⟨0, rfl⟩
    | cons c cs => obtain ⟨c1, c2⟩ := hz c (List.mem_cons_self); exact ⟨c.toNat, by simp; omega⟩
  have hkz : kOf zs = k := by unfold kOf; rw [hk]; rfl
  by_cases h0 : len = 0
  · have HN : numV zs = (0, 0) := by unfold numV; rw [if_neg (fun h => by have := h.1; omega)]
    rw [HN]
    have HO := Lib.hid (show ∀ w1, Ints w.heap.size .u8 w1 a zs → _ from fun w1 h => callsIn_wide (n := 0) |>.1 (octet_in Fence.wide _ trivial rfl a len cap zs hl hreach w.heap.size w1 h))
    subst h0
    simp only [if_true] at HO
    go_enter Try.func56, Try.ntmps56
    go_wp2_with fail
    refine (HO.out _ hIa).mono ?_
    rintro e w' ⟨rfl, rfl⟩
    go_wp2_with fail
    exact bodyPost_ret (v := .tuple #[.int .u64 0, .int .i64 0]) (by simp [results, Try.f56, go_sem]) rfl ⟨rfl, Nw.refl.alloc _⟩
  by_cases hk8 : k ≤ 8
  · by_cases hkl : k < len
    · rcases hI with rfl | ⟨b, off, rfl, hbn, hcs⟩
      · simp at hl; omega
      · by_cases hc1 : cap = 1
        · subst hc1
          exact number_go1 b off len zs hl hreach hcap hz w hbn hcs (by omega) k hk hk8 hkl
        · exact number_go b off len cap zs hl hreach hcap hz w hbn hcs (by omega) k hk hk8 hkl hc1
    · have HN : numV zs = (0, 0) := by unfold numV; rw [if_neg (fun h => by have := h.2.2.1; rw [hkz] at this; omega)]
      rw [HN]
      have HO := Lib.hid (show ∀ w1, Ints w.heap.size .u8 w1 a zs → _ from fun w1 h => callsIn_wide (n := 0) |>.1 (octet_in Fence.wide _ trivial rfl a len cap zs hl hreach w.heap.size w1 h))
      simp only [hk, if_neg h0] at HO
      have hd1 : decide (8 < (k : Int)) = false := by simp; omega
      have hd2 : decide (len ≤ k) = true := by simp; omega
      clear hk hkz HN hl hz
      go_enter Try.func56, Try.ntmps56
      go_wp2_with fail
      refine (HO.out _ hIa).mono ?_
      rintro e w' ⟨rfl, rfl⟩
      go_wp2_with fail
      exact bodyPost_ret (v := .tuple #[.int .u64 0, .int .i64 0]) (by simp [results, Try.f56, go_sem]) rfl ⟨rfl, Nw.refl.alloc _⟩
  · have HN : numV zs = (0, 0) := by unfold numV; rw [if_neg (fun h => by have := h.2.1; rw [hkz] at this; omega)]
    rw [HN]
    have HO := Lib.hid (show ∀ w1, Ints w.heap.size .u8 w1 a zs → _ from fun w1 h => callsIn_wide (n := 0) |>.1 (octet_in Fence.wide _ trivial rfl a len cap zs hl hreach w.heap.size w1 h))
    simp only [hk, if_neg h0] at HO
    have hd1 : decide (8 < (k : Int)) = true := by simp; omega
    clear hk hkz HN hl hz
    go_enter Try.func56, Try.ntmps56
    go_wp2_with fail
    refine (HO.out _ hIa).mono ?_
    rintro e w' ⟨rfl, rfl⟩
    go_wp2_with fail
    exact bodyPost_ret (v := .tuple #[.int .u64 0, .int .i64 0]) (by simp [results, Try.f56, go_sem]) rfl ⟨rfl, Nw.refl.alloc _⟩

end Go.Proofs.Ytphcdndohdnolaa
