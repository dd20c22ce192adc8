/-
  THE WALK OF octet.Pack.
-/
import Derived.Test.YtciagdechmkgjaaOctH
import Derived.Maps.AppendAt
import Derived.Lib.ConvBytes
namespace Go.Proofs.Ytciagdechmkgjaa
open Go.RowKit Go.Shelf
set_option linter.unusedVariables false
attribute [local go_sem] Oper.semAt_some

set_option maxHeartbeats 1000000 in
theorem chunk_in (F : Fence) (n : Nat) (h5 : F.fn 26) (hro : F.round = none) (a : Option Addr) (len cap : Nat) (w : World) :
    CallsIn F n Try.prog 26 #[.slice a len cap, .int .i64 8] w fun e w' => e = .returned (.func (.func 35) #[] #[.pointer (some ⟨w.heap.size, 0, none⟩), .pointer (some ⟨w.heap.size + 1, 0, none⟩)]) ∧ w' = (w.alloc (.cells #[.slice a len cap] 23)).alloc (.cells #[.int .i64 8] 3) := by
  refine callsIn_of_wp Try.func26 rfl h5 ?_ hro
  simp only [Try.ntmps26, List.size_toArray, List.length_cons, List.length_nil, Nat.reduceAdd, Nat.reduceSub, Array.replicate_succ, Array.replicate_zero, List.push_toArray, List.append_toArray, List.nil_append, List.cons_append]
  gi_wp2
  go_ret
  exact ⟨rfl, rfl⟩

theorem chunk_stops (F : Fence) (n : Nat) (h7 : F.fn 35) (hro : F.round = none) (hn : 1 ≤ n) (B1 B2 n₀ x b off len cap : Nat) (hreach : len ≤ 140737488355000) (hcap : len ≤ cap) (hB1 : B1 < n₀) (hB1x : B1 ≠ x) (hB2 : B2 < n₀) (hB2x : B2 ≠ x)
    (w : World) (hn₀ : n₀ ≤ w.heap.size) (hc1 : w.cell? ⟨B1, 0, none⟩ = some (.slice (some ⟨b, off, none⟩) len cap)) (hc2 : w.cell? ⟨B2, 0, none⟩ = some (.int .i64 8)) :
    SeqStopsK F n Try.prog 35 #[.pointer (some ⟨B1, 0, none⟩), .pointer (some ⟨B2, 0, none⟩)] (chE b off len) (KpU n₀ x) (fun ys => ys = chL (qOf len) (qOf len)) (fun _ => True) (qOf len) w := fun l J Jx W hW hJ _ hY h0 =>
  chunk1_in F n h7 hro hn l B1 B2 n₀ x b off len cap hreach hcap hB1 hB1x hB2 hB2x J Jx (fun pre W' h => hJ pre W' W'.drew none h ⟨rfl, rfl, rfl, Nat.le_refl _, fun _ _ _ => rfl⟩ (fun _ e => by cases e)) hY W
    ((hW.cell (p := ⟨B1, 0, none⟩) (Nat.lt_of_lt_of_le hB1 hn₀)).trans hc1) ((hW.cell (p := ⟨B2, 0, none⟩) (Nat.lt_of_lt_of_le hB2 hn₀)).trans hc2) h0

/-- '[]byte(s)'. -/
theorem conv_str (w : World) (s : ByteArray) : ∃ W1 C, (convert 9 23 (.string s)).run Try.prog w = .ok (.slice (some ⟨w.heap.size, 0, none⟩) s.size C) W1 ∧ s.size ≤ C ∧ Ints (w.heap.size + 1) .u8 W1 (some ⟨w.heap.size, 0, none⟩) (strB s) ∧ Nw w W1 ∧ W1.heap.size = w.heap.size + 1 := by
  refine ⟨_, _, Lib.run_convert_string_bytes w _ _ 5 s Try.underlying9 Try.underlying23 Try.underlying5, grownCap_ge _ _ _ _, ?_, ⟨⟨rfl, rfl, rfl, by rw [Lib.bytesWorld_size]; omega, fun k hk => Lib.bytesWorld_at_old w _ s k hk⟩⟩, Lib.bytesWorld_size _ _ _⟩
  refine .inr ⟨_, 0, rfl, by omega, fun j hj => ?_⟩
  rw [strB_length] at hj
  rw [Nat.zero_add, Lib.bytesWorld_cell w _ s j hj]
  have hl : s.data.toList.length = s.size := by rfl
  simp [strB, List.getD, hl, hj]

theorem own_below {w w' : World} (hb : Below w.heap.size w w') {base : Nat} {e : TypeId} {size : Nat} {v : Value} {n : Nat} {xs : List Value} (h : w.ownsRow base e size v n xs) : w'.ownsRow base e size v n xs := by
  obtain ⟨h1, h2⟩ := h
  refine ⟨h1, ?_⟩
  rcases h2 with h2 | ⟨g, cap, cur, hv, hg, hh, r⟩
  · exact .inl h2
  · exact .inr ⟨g, cap, cur, hv, hg, (hb.block g (Array.getElem?_eq_some_iff.1 hh).1).trans hh, r⟩
theorem own_up {t : Nat} {w w' : World} (hb : Up t w w') {base : Nat} {e : TypeId} {size : Nat} {v : Value} {n : Nat} {xs : List Value} (h : w.ownsRow base e size v n xs) (ht : some t ≠ v.ownBlock) : w'.ownsRow base e size v n xs := by
  obtain ⟨h1, h2⟩ := h
  refine ⟨h1, ?_⟩
  rcases h2 with h2 | ⟨g, cap, cur, hv, hg, hh, r⟩
  · exact .inl h2
  · refine .inr ⟨g, cap, cur, hv, hg, (hb.block g (Array.getElem?_eq_some_iff.1 hh).1 (fun e => ht ?_)).trans hh, r⟩
    rw [hv, e]; rfl

/-- The k-th word of bytes. -/
def wordI (zs : List Int) (k : Nat) : Int := valL ((zs.drop (8 * k)).take 8)
def packL (zs : List Int) : List Int := (List.range (qOf zs.length)).map (wordI zs)
theorem packL_length (zs : List Int) : (packL zs).length = qOf zs.length := by simp [packL]
def wordsC (zs : List Int) {q : Nat} (l : List (Fin q)) : List Value := l.map fun y => .int .u64 (wordI zs y.1)
theorem wordsC_all (zs : List Int) : wordsC zs (chL (qOf zs.length) (qOf zs.length)) = (packL zs).map (.int .u64) := by
  unfold wordsC chL packL
  apply List.ext_getElem
  · simp
  · intro i h1 h2
    simp
theorem wordI_u64 (zs : List Int) (hz : ∀ x ∈ zs, isByte x) (k : Nat) : 0 ≤ wordI zs k ∧ wordI zs k < 18446744073709551616 := by
  obtain ⟨b1, b2⟩ := valL_bd ((zs.drop (8 * k)).take 8) (fun x hx => hz x (List.mem_of_mem_drop (List.mem_of_mem_take hx)))
  have hp : 256 ^ ((zs.drop (8 * k)).take 8).length ≤ 256 ^ 8 := Nat.pow_le_pow_right (by decide) (by simp; omega)
  have h8 : (256 : Nat) ^ 8 = 18446744073709551616 := by decide
  unfold wordI
  omega
theorem info_u64 : (Try.prog.info? 22).map (fun i => (i.zero, i.size, i.bytes)) = some (some (.int .u64 0), 1, 8) := by kernel_rfl
/-- What a call that makes a row of words of its own tells. -/
def OwnU (w : World) (zs : List Int) (e : Ending) (w' : World) : Prop :=
  ∃ v, e = .returned v ∧ w'.ownsRow w.heap.size 22 1 v zs.length (zs.map (.int .u64)) ∧ Nw w w'

theorem own_base {w : World} {base base' : Nat} (hb : base' ≤ base) {e : TypeId} {size : Nat} {v : Value} {n : Nat} {xs : List Value} (h : w.ownsRow base e size v n xs) : w.ownsRow base' e size v n xs := by
  obtain ⟨h1, h2⟩ := h
  refine ⟨h1, ?_⟩
  rcases h2 with h2 | ⟨g, cap, cur, hv, hg, r⟩
  · exact .inl h2
  · exact .inr ⟨g, cap, cur, hv, Nat.le_trans hb hg, r⟩
theorem ownFrom_kpu {β : Type} {n₀ x B : Nat} {w₀ : World} (hn : n₀ ≤ w₀.heap.size) (hB : n₀ ≤ B) : OwnFrom B (fun (_ : β) W => KpU n₀ x w₀ W) :=
  fun _ W W' row hs hg hr => hs.trans ⟨hg.os, hg.tape, hg.output, hg.size, fun k hk _ => hg.block k (by have := hs.size; omega) (fun e => by have := (hr k e.symm).1; omega)⟩
theorem KpU.below {n₀ x B : Nat} {w a b : World} (h : Below B w a) (k : KpU n₀ x a b) (hB : B ≤ n₀) (hx : B ≤ x) : Below B w b :=
  h.trans ⟨k.os, k.tape, k.output, k.size, fun i hi => k.block i (by omega) (by omega)⟩
theorem KpU.ints {n₀ x m : Nat} {a b : World} (h : KpU n₀ x a b) {k : IntKind} {g o : Nat} {zs : List Int} (hg : g < n₀) (hx : g ≠ x) (hI : Ints m k a (some ⟨g, o, none⟩) zs) : Ints m k b (some ⟨g, o, none⟩) zs := by
  rcases hI with rfl | ⟨b', off, e, hb, hc⟩
  · exact .inl rfl
  · simp only [Option.some.injEq, Addr.mk.injEq, and_true] at e
    obtain ⟨rfl, rfl⟩ := e
    exact .inr ⟨g, o, rfl, hb, fun j hj => (h.cell hg hx).trans (hc j hj)⟩
theorem appended2 {W w1 : World} {n₀ B : Nat} {t e : TypeId} {size : Nat} {v v' : Value} {k m : Nat} {xs ys : List Value} {tmp : Obj}
    (hv : Boxed W B t v) (hte : t ≠ e) (hrow : W.ownsRow n₀ e size v k xs) (hn₀ : n₀ ≤ W.heap.size)
    (hown' : w1.ownsRow n₀ e size v' m ys) (hgrow : (W.alloc tmp).grownBy w1 v.ownBlock) :
    Boxed w1 B t v ∧ Boxed (w1.setCell ⟨B, 0, none⟩ v') B t v' ∧ (w1.setCell ⟨B, 0, none⟩ v').ownsRow n₀ e size v' m ys ∧ KeepsOthers W (w1.setCell ⟨B, 0, none⟩ v') ∧ KpU n₀ B W (w1.setCell ⟨B, 0, none⟩ v') := by
  obtain ⟨h1, h2, h3, h4, _⟩ := hv.appended (n₀ := 0) hte (own_base (Nat.zero_le _) hrow) (Nat.zero_le _) (Nat.zero_le _) (own_base (Nat.zero_le _) hown') hgrow
  refine ⟨h1, h2, hown'.kept (grownBy_setCell' w1 B v') (.inr (h1.not_row hte hown').symm), h4, ?_⟩
  refine KpU.trans (b := w1) ⟨hgrow.os, hgrow.tape, hgrow.output, Nat.le_trans (by simp) hgrow.size, fun i hi _ => ?_⟩ (KpU.set _ _)
  refine (hgrow.block i (by simp; omega) (fun ej => ?_)).trans (Below.heap_alloc _ _ _ (by omega))
  rcases hrow.2 with ⟨rfl, _⟩ | ⟨g, cap, cur, rfl, hb, _, _⟩
  · simp [Value.ownBlock] at ej
  · obtain rfl : g = i := by simpa [Value.ownBlock] using ej.symm
    omega
theorem own_slice {w : World} {base : Nat} {e : TypeId} {size : Nat} {v : Value} {n : Nat} {xs : List Value} (h : w.ownsRow base e size v n xs) : ∃ a c, v = .slice a n c := by
  rcases h.2 with ⟨h1, h2⟩ | ⟨g, cap, cur, hv, _⟩
  · exact ⟨none, 0, by rw [h1, h2]⟩
  · exact ⟨_, _, hv⟩
theorem piece_length (zs : List Int) (o e8 len : Nat) (hl : zs.length = len) (he : e8 = min 8 (len - o)) : ((zs.drop o).take 8).length = e8 := by
  rw [List.length_take, List.length_drop]; omega

set_option maxRecDepth 100000 in
set_option maxHeartbeats 4000000 in
theorem pack_any (s : ByteArray) (hreach : s.size ≤ 140737488351232) (w : World) :
    Calls Try.prog 11 #[.string s] w (OwnU w (packL (strB s))) := by
  obtain ⟨i0, hi, hz0, hz1, hz2⟩ := info_parts8 info_u64
  obtain ⟨W1, C, hcv, hC, hI1, hN1, hsz1⟩ := conv_str (w.alloc (.cells #[.slice none 0 0] 28)) s
  simp only [World.size_alloc] at hcv hsz1 hI1
  obtain ⟨zs, hzs⟩ : ∃ zs, strB s = zs := ⟨_, rfl⟩
  have HZB := Lib.hid (show ∀ x ∈ zs, isByte x from by rw [← hzs]; exact strB_byte s)
  obtain ⟨len, hlen⟩ : ∃ len, s.size = len := ⟨_, rfl⟩
  have HL := Lib.hid (show zs.length = len by rw [← hzs, strB_length, hlen])
  rw [hzs] at hI1 ⊢
  rw [hlen] at hcv hC hreach
  clear hzs
  have HI1 := Lib.hid hI1
  have HN1 := Lib.hid hN1
  have hb0 := hN1.b.block w.heap.size (by simp)
  have bO1 : Boxed W1 w.heap.size 28 (.slice none 0 0) := hb0.trans (Boxed.new w _ _)
  clear hI1 hN1 hlen hb0
  refine (callsIn_wide (n := 9)).1 ?_
  refine callsIn_of_wp_marks Try.func11 rfl trivial ?_ rfl
  simp only [Try.ntmps11, List.size_toArray, List.length_cons, List.length_nil, Nat.reduceAdd, Nat.reduceSub, Array.replicate_succ, Array.replicate_zero, List.push_toArray, List.append_toArray, List.nil_append, List.cons_append]
  gi_wp2_with (refine ⟨trivial, ?_⟩; gi_at_call 26; refine (chunk_in Fence.wide _ trivial rfl _ _ _ _).mono ?_; rintro e w' ⟨rfl, rfl⟩)
  have b1 := (Boxed.new W1 23 (.slice (some ⟨w.heap.size + 1, 0, none⟩) len C)).alloc (.cells #[.int .i64 8] 3)
  have b2 := Boxed.new (W1.alloc (.cells #[.slice (some ⟨w.heap.size + 1, 0, none⟩) len C] 23)) 3 (.int .i64 8)
  have bO := (bO1.alloc (.cells #[.slice (some ⟨w.heap.size + 1, 0, none⟩) len C] 23)).alloc (.cells #[.int .i64 8] 3)
  simp only [World.size_alloc, hsz1] at b1 b2
  have hb01 : Below w.heap.size w W1 := ((Below.refl _ w).alloc (Nat.le_refl _) _).trans (HN1.out.b.mono (by simp))
  have hB0 : Below w.heap.size w ((W1.alloc (.cells #[.slice (some ⟨w.heap.size + 1, 0, none⟩) len C] 23)).alloc (.cells #[.int .i64 8] 3)) := (hb01.alloc hb01.size _).alloc (by rw [World.size_alloc]; omega) _
  have hI0 : Ints (w.heap.size + 1 + 1) .u8 ((W1.alloc (.cells #[.slice (some ⟨w.heap.size + 1, 0, none⟩) len C] 23)).alloc (.cells #[.int .i64 8] 3)) (some ⟨w.heap.size + 1, 0, none⟩) zs := HI1.out.below (((Below.refl _ W1).alloc (by omega) _).alloc (by rw [World.size_alloc]; omega) _)
  have hsz : ((W1.alloc (.cells #[.slice (some ⟨w.heap.size + 1, 0, none⟩) len C] 23)).alloc (.cells #[.int .i64 8] 3)).heap.size = w.heap.size + 4 := by rw [World.size_alloc, World.size_alloc, hsz1]
  obtain ⟨W0, hW0⟩ : ∃ W0, (W1.alloc (.cells #[.slice (some ⟨w.heap.size + 1, 0, none⟩) len C] 23)).alloc (.cells #[.int .i64 8] 3) = W0 := ⟨_, rfl⟩
  rw [hW0] at b1 b2 bO hB0 hI0 hsz ⊢
  have HI0 := Lib.hid hI0
  clear hW0 hcv hsz1 HI1 HN1 bO1 hb01 hI0
  clear W1
  refine wpIn_rangeFunc_ownH rfl (by omega) (gf := 35) (lb := #[.pointer (some ⟨w.heap.size + 1 + 1, 0, none⟩), .pointer (some ⟨w.heap.size + 1 + 1 + 1, 0, none⟩)]) rfl trivial (enters_of Try.func35 (by kernel_rfl) rfl)
    (chunk_stops Fence.wide _ trivial rfl (by omega) (w.heap.size + 1 + 1) (w.heap.size + 1 + 1 + 1) (w.heap.size + 4) w.heap.size (w.heap.size + 1) 0 len C (by omega) hC (by omega) (by omega) (by omega) (by omega) W0 (by omega) b1.cell b2.cell)
    (fun h k => h.trans k) (fun W l o o' h1 h2 h3 h4 => KpU.putObj (B := W0.heap.size) (by omega) W l o' h1) (Below.refl _ _) (fun _ => rfl)
    (fun pre W => (∃ v, Boxed W w.heap.size 28 v ∧ W.ownsRow (w.heap.size + 4) 22 1 v pre.length (wordsC zs pre) ∧ True) ∧ KpU (w.heap.size + 4) w.heap.size W0 W)
    (fun _ _ _ => False)
    (OwnFrom.and (Own.from (holdsRow_own (w.heap.size + 4) w.heap.size 28 22 1 (fun pre => pre.length) (fun pre => wordsC zs pre) (fun _ _ => True)) _) (ownFrom_kpu (by omega) (by omega)))
    (fun _ _ _ _ _ hs _ _ => hs)
    ⟨⟨_, bO, ⟨rfl, .inl ⟨rfl, rfl⟩⟩, trivial⟩, KpU.refl _ _ _⟩
    (fun y a' _ => a' = { tmps := #[.string s, undef, .pointer (some ⟨w.heap.size, 0, none⟩), .slice (some ⟨w.heap.size + 1, 0 + 8 * y.1, none⟩) (min 8 (len - 8 * y.1)) (min 8 (len - 8 * y.1)), undef, undef, undef, .string s, .slice (some ⟨w.heap.size + 1, 0, none⟩) len C, .func (.func 35) #[] #[.pointer (some ⟨w.heap.size + 1 + 1, 0, none⟩), .pointer (some ⟨w.heap.size + 1 + 1 + 1, 0, none⟩)], .slice (some ⟨w.heap.size + 1, 0 + 8 * y.1, none⟩) (min 8 (len - 8 * y.1)) (min 8 (len - 8 * y.1)), undef, undef, undef, undef, undef, undef, undef, undef, undef, undef, undef, undef, undef, undef], defers := [] })
    (fun _ _ _ _ _ _ hs _ _ => hs)
    ?assign ?body ?done ?stop
  case assign =>
    rintro l pre y W K hi hK
    have hK' := hK _ W (KeepsFrom.refl _ _) (KpU.refl _ _ _) hi rfl
    unfold chE
    obtain ⟨o8, ho8⟩ : ∃ o8, 0 + 8 * y.1 = o8 := ⟨_, rfl⟩
    obtain ⟨e8, he8⟩ : ∃ e8, min 8 (len - 8 * y.1) = e8 := ⟨_, rfl⟩
    rw [ho8, he8] at hK' ⊢
    clear hK
    gi_wp2
    exact hK'
  case body =>
    rintro l pre y a' W hl ⟨r, hr⟩ ⟨⟨v, bOW, hrow, _⟩, hkp⟩ rfl hlt
    have hsW := hkp.size
    have hIp := ((hkp.ints (by omega) (by omega) HI0.out).drop (8 * y.1)).take 8
    have hpl := piece_length zs (8 * y.1) (min 8 (len - 8 * y.1)) len HL.out rfl
    have hpb : ∀ c ∈ (zs.drop (8 * y.1)).take 8, isByte c := fun c hc => HZB.out c (List.mem_of_mem_drop (List.mem_of_mem_take hc))
    have HWD := Lib.hid (show wordI zs y.1 = valL ((zs.drop (8 * y.1)).take 8) from rfl)
    have HWC := Lib.hid (show wordsC zs (pre ++ [y]) = wordsC zs pre ++ [.int .u64 (wordI zs y.1)] by simp [wordsC])
    have hq8 : 8 * pre.length < len + 8 := by have hq : qOf len = (len + 7) / 8 := rfl; omega
    rw [Nat.zero_add] at hIp
    rw [Nat.zero_add]
    obtain ⟨o8, ho8⟩ : ∃ o8, 8 * y.1 = o8 := ⟨_, rfl⟩
    rw [ho8] at hIp hpl hpb HWD ⊢
    obtain ⟨e8, he8⟩ : ∃ e8, min 8 (len - o8) = e8 := ⟨_, rfl⟩
    have he9 : e8 ≤ 8 := by omega
    rw [he8] at hpl ⊢
    obtain ⟨part, hpart⟩ : ∃ part, (zs.drop o8).take 8 = part := ⟨_, rfl⟩
    rw [hpart] at hIp hpl hpb HWD
    obtain ⟨wd, hwd⟩ : ∃ wd, wordI zs y.1 = wd := ⟨_, rfl⟩
    rw [hwd] at HWD HWC
    have HIP := Lib.hid hIp
    have HPB := Lib.hid hpb
    have HPL := Lib.hid hpl
    clear hIp hpb hpl ho8 he8 hpart hwd hlt
    gi_wp2_with (refine ⟨trivial, ?_⟩; gi_at_call 27; refine (CallsIn.inRound l (backward_in Fence.wide _ trivial rfl _ _ _ _)).mono ?_; rintro e w' ⟨rfl, rfl⟩)
    have bN := (Boxed.new W 22 (.int .u64 0)).alloc (.cells #[.slice (some ⟨w.heap.size + 1, o8, none⟩) e8 e8] 23)
    have bS := Boxed.new (W.alloc (.cells #[.int .u64 0] 22)) 23 (.slice (some ⟨w.heap.size + 1, o8, none⟩) e8 e8)
    rw [World.size_alloc] at bS
    have hbW : Below W.heap.size W ((W.alloc (.cells #[.int .u64 0] 22)).alloc (.cells #[.slice (some ⟨w.heap.size + 1, o8, none⟩) e8 e8] 23)) := ((Below.refl _ W).alloc (Nat.le_refl _) _).alloc (by simp) _
    have hkW : KeepsFrom W0.heap.size W ((W.alloc (.cells #[.int .u64 0] 22)).alloc (.cells #[.slice (some ⟨w.heap.size + 1, o8, none⟩) e8 e8] 23)) := ((KeepsOthers.alloc _ _).trans (KeepsOthers.alloc _ _)).from _
    have hr' : ((W.alloc (.cells #[.int .u64 0] 22)).alloc (.cells #[.slice (some ⟨w.heap.size + 1, o8, none⟩) e8 e8] 23)).heap[l]? = some (.loop r) := (hbW.block l (Array.getElem?_eq_some_iff.1 hr).1).trans hr
    have hsWi : ((W.alloc (.cells #[.int .u64 0] 22)).alloc (.cells #[.slice (some ⟨w.heap.size + 1, o8, none⟩) e8 e8] 23)).heap.size = W.heap.size + 2 := by simp
    generalize (W.alloc (.cells #[.int .u64 0] 22)).alloc (.cells #[.slice (some ⟨w.heap.size + 1, o8, none⟩) e8 e8] 23) = Wi at *
    have hIi : Ints W.heap.size .u8 Wi (some ⟨w.heap.size + 1, o8, none⟩) part := Ints.below hbW (HIP.out.mono (by omega))
    refine wpIn_rangeFunc_ownN (l₀ := l) (r₀ := r) rfl hr' (by omega) (gf := 36) (lb := #[.pointer (some ⟨W.heap.size + 1, 0, none⟩)]) rfl trivial (enters_of Try.func36 (by kernel_rfl) rfl)
      ((backward_stops Fence.wide _ trivial rfl (by omega) (W.heap.size + 1) W.heap.size e8 (some ⟨w.heap.size + 1, o8, none⟩) part (by rw [HPL.out]; omega) Wi (by omega) (by omega) (by rw [HPL.out]; exact bS.cell) hIi).inRound l)
      (fun h k => h.trans k) (fun W' l o o' h1 h2 h3 h4 => ⟨belowK_b (by omega) W' l o o' h1 h2 h3 h4, World.putObj_heap_other (by omega)⟩) (Below.refl _ _) (fun _ => rfl)
      (fun pre' W' => Boxed W' W.heap.size 22 (.int .u64 (accM pre')) ∧ (Below W.heap.size W W' ∧ KeepsFrom W0.heap.size W W'))
      (fun _ _ _ => False)
      (OwnFrom.and (Own.from (boxed_own _ _ _) _) (OwnFrom.and (ownFrom_below (Nat.le_refl _) (by omega)) (ownFrom_keepsFrom (by omega))))
      (fun _ _ _ _ _ hs _ _ => hs)
      ⟨bN, hbW, hkW⟩
      (fun x a'' _ => a'' = { tmps := #[.string s, undef, .pointer (some ⟨w.heap.size, 0, none⟩), .slice (some ⟨w.heap.size + 1, o8, none⟩) e8 e8, .pointer (some ⟨W.heap.size, 0, none⟩), undef, .int .u8 x.2, .string s, .slice (some ⟨w.heap.size + 1, 0, none⟩) len C, .func (.func 35) #[] #[.pointer (some ⟨w.heap.size + 1 + 1, 0, none⟩), .pointer (some ⟨w.heap.size + 1 + 1 + 1, 0, none⟩)], .slice (some ⟨w.heap.size + 1, o8, none⟩) e8 e8, .slice (some ⟨w.heap.size + 1, o8, none⟩) e8 e8, .func (.func 36) #[] #[.pointer (some ⟨W.heap.size + 1, 0, none⟩)], .int .i64 x.1, .int .u8 x.2, undef, undef, undef, undef, undef, undef, undef, undef, undef, undef], defers := [] })
      (fun _ _ _ _ _ _ hs _ _ => hs)
      ?assign2 ?body2 ?done2 ?stop2
    case assign2 =>
      rintro l2 pre' x W' K hi hK
      have hK' := hK _ W' (KeepsFrom.refl _ _) (KpB.refl _ _ _) hi rfl
      clear hK
      gi_wp2
      exact hK'
    case body2 =>
      rintro l2 pre' x a'' W' _ _ ⟨bN2, hBW, hKF⟩ rfl _
      have cN := bN2.cell
      have fN := bN2.frozen
      gi_wp2
      rw [show bits .or .u64 (IntKind.u64.wrap (accM pre' * 256)) (IntKind.u64.wrap x.2) = accM (pre' ++ [x]) from (accM_snoc _ _).symm]
      exact ⟨(KeepsOthers.setCell _ _ _).from _, ⟨(Below.refl W.heap.size W').setCell (p := ⟨W.heap.size, 0, none⟩) (Nat.le_refl _) _, Below.heap_setCell W' _ _ _ (by simp)⟩, bN2.set _, hBW.setCell (p := ⟨W.heap.size, 0, none⟩) (Nat.le_refl _) _, hKF.trans ((KeepsOthers.setCell _ _ _).from _)⟩
    case done2 =>
      rintro ys' W' rfl ⟨bN2, hBW, hKF⟩
      rw [acc_all part HPB.out (by rw [HPL.out]; omega), ← HWD.out] at bN2
      have cN := bN2.cell
      have bO2 : Boxed W' w.heap.size 28 v := (hBW.block _ (by omega)).trans bOW
      have cO := bO2.cell
      have fO := bO2.frozen
      have hrow2 := own_below hBW hrow
      have hsW' := hBW.size
      have HBW := Lib.hid hBW
      have HKF := Lib.hid hKF
      have HKP := Lib.hid hkp
      clear hBW hKF hbW hkW hkp bN2 hsWi
      gi_wp2_with (gi_at_builtin; refine wpListIn_append_own _ rfl _ _ 28 rfl (w.heap.size + 4) 22 i0 (.int .u64 0) 1 8 Try.underlying28 hi hz0 hz1 hz2 rfl (by decide) _ _ _ rfl (hrow2.alloc _) ⟨W'.heap.size, 0, none⟩ 1 1 [.int .u64 wd] rfl rfl (cell_one_new _ _ _) (by simp [Value.oneCell']) (by unfold maxLen; omega) (by omega) (by simp; omega) ?_; intro v' w1 hown' hgrow _; obtain ⟨g', cap', rfl⟩ := ownsRow_succ hown'; obtain ⟨hv1, hv2, hr2, hk2, hb2⟩ := appended2 bO2 (by decide) hrow2 (by omega) hown' hgrow; have hc1 := hv1.cell; have hf1 := hv1.frozen)
      exact ⟨HKF.out.trans (hk2.from _), (KpU.of_below HBW.out (by omega)).trans hb2, ⟨_, hv2, by rw [HWC.out, List.length_append]; exact hr2, trivial⟩, HKP.out.trans ((KpU.of_below HBW.out (by omega)).trans hb2)⟩
    case stop2 =>
      rintro c pre' W' _ h
      exact h.elim
  case done =>
    rintro D ys W hD rfl ⟨⟨v, bOW, hrow, _⟩, hkp⟩ hK
    obtain ⟨va, vc, rfl⟩ := own_slice hrow
    have cO := bOW.cell
    have fO := bOW.frozen
    have hne0 : D ≠ w.heap.size := by omega
    have HRW := Lib.hid hrow
    have HKP := Lib.hid hkp
    obtain ⟨N, hN⟩ : ∃ N, (chL (qOf len) (qOf len)).length = N := ⟨_, rfl⟩
    rw [hN] at cO bOW HRW
    have HNN := Lib.hid hN
    clear hN hrow hkp
    gi_wp2
    have hK2 := (Below.heap_setCell W ⟨w.heap.size, 0, none⟩ (.slice va N vc) D hne0).trans hK
    refine ⟨by simp, .inl ⟨_, _, rfl, run_takeDeferred hK2, ?_⟩⟩
    have hB1 : Below w.heap.size w W := KpU.below hB0 HKP.out (by omega) (Nat.le_refl _)
    have hB2 : Below w.heap.size w ((W.setCell ⟨w.heap.size, 0, none⟩ (.slice va N vc)).putObj D (.deferred none)) := (hB1.setCell (p := ⟨w.heap.size, 0, none⟩) (Nat.le_refl _) _).trans (belowK_b (w := w) (Nat.le_refl _) _ D _ _ (by omega) hK2 rfl rfl)
    have bO2 := bOW.set (.slice va N vc)
    have hr2 : (W.setCell ⟨w.heap.size, 0, none⟩ (.slice va N vc)).ownsRow (w.heap.size + 4) 22 1 (.slice va N vc) N (wordsC zs (chL (qOf len) (qOf len))) := HRW.out.kept (grownBy_setCell' W w.heap.size _) (.inr (bOW.not_row (by decide) HRW.out).symm)
    have hr3 := own_base (base' := w.heap.size) (by omega) (ownsRow_putObj hr2 (.deferred none) hK2 rfl)
    have bO3 : Boxed ((W.setCell ⟨w.heap.size, 0, none⟩ (.slice va N vc)).putObj D (.deferred none)) w.heap.size 28 (.slice va N vc) := (World.putObj_heap_other (Ne.symm hne0)).trans bO2
    have hc2 := bO3.cell
    have e1 := HNN.out
    have hl := HL.out
    subst hl
    rw [chL_length (Nat.le_refl _)] at e1
    rw [wordsC_all] at hr3
    clear hr2 bO2 bO3 hK2 hK
    generalize (W.setCell ⟨w.heap.size, 0, none⟩ (.slice va N vc)).putObj D (.deferred none) = W9 at *
    exact ⟨.slice va N vc, by simp [results, Try.f11, go_sem, hc2], _, rfl, by rw [packL_length, e1]; exact hr3, ⟨hB2⟩⟩
  case stop =>
    rintro D c pre W _ _ h _
    exact h.elim

end Go.Proofs.Ytciagdechmkgjaa
