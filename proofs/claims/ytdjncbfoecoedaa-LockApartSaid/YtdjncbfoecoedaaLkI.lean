/-
  LOCKS: Give.
-/
import Derived.Test.YtdjncbfoecoedaaLkH
import Derived.Test.YtdjncbfoecoedaaRound
import Derived.IntWalk
namespace Go.Proofs.Ytdjncbfoecoedaa
open Go.RowKit Go.Shelf
set_option linter.unusedVariables false
attribute [local go_sem] Oper.semAt_some

/-- A lock that x gives back, and no longer wants. -/
def relK (x : Int) (k : Lk) : Lk := ⟨if (k.h == x + 1) = true then 0 else k.h, lessL x k.q⟩
def relTo (s : Nat → Lk) (x : Int) (m : Nat) : Nat → Lk := fun i => if i < m then relK x (s i) else s i
theorem relTo_succ (s : Nat → Lk) (x : Int) (m : Nat) : relTo s x (m + 1) = updF (relTo s x m) m (relK x (s m)) := by
  funext i
  unfold relTo updF
  by_cases e : i = m
  · subst e; simp
  · by_cases e2 : i < m
    · rw [if_pos (by omega), if_neg e]; exact (if_pos e2).symm
    · rw [if_neg (by omega), if_neg e]; exact (if_neg e2).symm
theorem updF_updF {α : Type} (f : Nat → α) (k : Nat) (x y : α) : updF (updF f k x) k y = updF f k y := by funext i; unfold updF; split <;> rfl
theorem updF_self {α : Type} (f : Nat → α) (k : Nat) (x : α) (h : x = f k) : updF f k x = f := by funext i; unfold updF; split <;> simp_all
theorem relTo_at (s : Nat → Lk) (x : Int) (m : Nat) : relTo s x m m = s m := by unfold relTo; rw [if_neg (by omega)]
theorem lessL_length (x : Int) (q : List Int) : (lessL x q).length ≤ q.length := List.length_filter_le _ _
theorem TAt.upo {O : Nat → Prop} {W W' : World} {t : Nat} {n : Int} {s : Nat → Lk} {a : Nat → Option Addr} {c : Nat → Nat} (h : TAt W t n s a c) (k : UpO O W W') (hn : ∀ x, Own t a x → ¬ O x) : TAt W' t n s a c := by
  have ht := hn t (.inl rfl)
  have hc : ∀ j, W'.cell? ⟨t, j, none⟩ = W.cell? ⟨t, j, none⟩ := fun j => World.cell?_of_block (w := W) (a := ⟨t, j, none⟩) (k.block t h.lt ht)
  exact ⟨(hc _).trans h.w, fun i hi => (hc _).trans (h.h i hi), fun i hi => (hc _).trans (h.q i hi), fun i hi => (h.u i hi).upo k (fun p hp => hn _ (.inr ⟨i, hi, p, hp, rfl⟩)), h.ne, h.d,
    fun j => (World.frozen?_of_block (w := W) (a := ⟨t, j, none⟩) (k.block t h.lt ht)).trans (h.fr j)⟩
/-- The head of a queue gets its lock. -/
def popK (k : Lk) : Lk := ⟨k.q.headD 0 + 1, k.q.tail⟩
def popL (s : Nat → Lk) (pre : List (Fin 70)) : Nat → Lk := pre.foldl (fun f x => updF f x.1 (popK (f x.1))) s
theorem popL_snoc (s : Nat → Lk) (pre : List (Fin 70)) (x : Fin 70) : popL s (pre ++ [x]) = updF (popL s pre) x.1 (popK (popL s pre x.1)) := by unfold popL; rw [List.foldl_append]; rfl
theorem popL_other (pre : List (Fin 70)) (k : Nat) : ∀ s, (∀ x ∈ pre, x.1 ≠ k) → popL s pre k = s k := by
  induction pre with
  | nil => intro s _; rfl
  | cons y r ih =>
    intro s h
    show popL (updF s y.1 (popK (s y.1))) r k = s k
    rw [ih _ (fun x hx => h x (List.mem_cons_of_mem _ hx)), updF_ne _ _ (fun e => h y List.mem_cons_self e.symm)]
def outL (s : Nat → Lk) (pre : List (Fin 70)) : List Int := pre.map fun x => (s x.1).q.headD 0
def giveS (s : Nat → Lk) (x : Int) : Nat → Lk := popL (relTo s x 70) (looseL 70 (rdyB (relTo s x 70)) 70)
def giveO (s : Nat → Lk) (x : Int) : List Int := outL (relTo s x 70) (looseL 70 (rdyB (relTo s x 70)) 70)
/-- What Give tells. -/
def GiveP (w : World) (t : Nat) (n : Int) (a : Nat → Option Addr) (s' : Nat → Lk) (zs : List Int) (e : Ending) (w' : World) : Prop :=
  ∃ ax cx, e = .returned (.slice ax zs.length cx) ∧ Ints w'.heap.size .i64 w' ax zs ∧ zs.length ≤ cx ∧ ∃ a' c', Moved w t n a s' a' c' w'
theorem setCell_comm (w : World) (a b : Addr) (u v : Value) (h : a.block = b.block) (ha : a.spot = none) (hb : b.spot = none) (hn : a.off ≠ b.off) : (w.setCell a u).setCell b v = (w.setCell b v).setCell a u := by
  unfold World.setCell
  congr 1
  rw [h]
  apply Array.ext
  · simp
  · intro i h1 h2
    simp only [Array.size_modify] at h1 h2
    by_cases e : b.block = i
    · subst e
      rw [Array.getElem_modify_self, Array.getElem_modify_self, Array.getElem_modify_self, Array.getElem_modify_self]
      cases w.heap[b.block] <;> simp [ha, hb, Array.setIfInBounds_comm _ _ hn]
    · rw [Array.getElem_modify_of_ne e, Array.getElem_modify_of_ne e, Array.getElem_modify_of_ne e, Array.getElem_modify_of_ne e]

/-! ### The second half -/
theorem Qu.rest {W : World} {b off c : Nat} {f : Int} {r : List Int} (h : Qu W (some ⟨b, off, none⟩) c (f :: r)) : (1 < c → Qu W (some ⟨b, off + 1, none⟩) (c - 1) r) ∧ (c = 1 → r = [] ∧ Qu W (some ⟨b, off, none⟩) 0 []) := by
  rcases h with ⟨h, _⟩ | ⟨b', off', e, hb, h1, h2, h3, h4, h5⟩
  · cases h
  · cases e
    refine ⟨fun hc => .inr ⟨b, off + 1, rfl, hb, by simp at h1; omega, by omega, fun j hj => by have := h3 (j + 1) (by omega); rwa [show off + 1 + j = off + (j + 1) by omega], h4, fun j hj => by have := h5 (j + 1) (by simp; omega); rw [show off + 1 + j = off + (j + 1) by omega]; simpa using this⟩, fun hc => ⟨List.length_eq_zero_iff.1 (by simp at h1; omega), .inr ⟨b, off, rfl, hb, by simp, by omega, fun j hj => by omega, h4, fun j hj => by simp at hj⟩⟩⟩
theorem Qu.first {W : World} {a : Option Addr} {c : Nat} {f : Int} {r : List Int} (h : Qu W a c (f :: r)) : ∃ b off, a = some ⟨b, off, none⟩ ∧ W.cell? ⟨b, off, none⟩ = some (.int .i64 f) ∧ 1 ≤ c ∧ r.length + 1 ≤ c ∧ c ≤ maxLen := by
  rcases h with ⟨_, h, _⟩ | ⟨b, off, e, hb, h1, h2, h3, h4, h5⟩
  · cases h
  · exact ⟨b, off, e, (h5 0 (by simp) : _), by simp at h1; omega, by simpa using h1, h2⟩
/-- What is kept while free locks are handed on. -/
def PopI (W5 : World) (t : Nat) (n : Int) (s1 : Nat → Lk) (a1 : Nat → Option Addr) (C : Nat) (pre : List (Fin 70)) (W : World) : Prop :=
  ∃ a' c', TAt W t n (popL s1 pre) a' c' ∧ (∀ k, Own t a' k → Own t a1 k) ∧ UpO (fun k => Own t a1 k ∨ k = C) W5 W
theorem popI_own (W5 : World) (t : Nat) (n : Int) (s1 : Nat → Lk) (a1 : Nat → Option Addr) (C : Nat) (ho : ∀ k, Own t a1 k → k < W5.heap.size) : OwnFrom W5.heap.size (PopI W5 t n s1 a1 C) := by
  rintro pre W W' row ⟨a', c', h1, h2, h3⟩ hg hr
  have hf := row_far h3.size hr
  have hu : UpO (fun k => k = row.getD W.heap.size) W W' := .of_up (up_of_grown hg) rfl
  exact ⟨a', c', h1.upo hu (fun x hx e => by have := ho x (h2 x hx); omega), h2, ⟨hg.os.trans h3.os, hg.tape.trans h3.tape, hg.output.trans h3.output, Nat.le_trans h3.size hg.size, fun k hk hn => (hu.block k (by have := h3.size; omega) (by omega)).trans (h3.block k hk hn)⟩⟩
theorem UpO.keepsFrom {O : Nat → Prop} {B : Nat} {W W' : World} (h : UpO O W W') (ho : ∀ k, O k → k < B) : KeepsFrom B W W' :=
  ⟨h.size, fun k o hB hk _ => (h.block k (Array.getElem?_eq_some_iff.1 hk).1 (fun hx => by have := ho k hx; omega)).trans hk⟩
theorem outL_snoc (s : Nat → Lk) (pre : List (Fin 70)) (x : Fin 70) : outL s (pre ++ [x]) = outL s pre ++ [(s x.1).q.headD 0] := by simp [outL]
theorem outL_length (s : Nat → Lk) (pre : List (Fin 70)) : (outL s pre).length = pre.length := by simp [outL]

theorem own_upo {O : Nat → Prop} {w w' : World} (hb : UpO O w w') {base : Nat} {e : TypeId} {size : Nat} {v : Value} {n : Nat} {xs : List Value} (h : w.ownsRow base e size v n xs) (hO : ∀ k, O k → k < base) : w'.ownsRow base e size v n xs := by
  obtain ⟨h1, h2⟩ := h
  refine ⟨h1, ?_⟩
  rcases h2 with h2 | ⟨g, cap, cur, hv, hg, hh, r⟩
  · exact .inl h2
  · exact .inr ⟨g, cap, cur, hv, hg, (hb.block g (Array.getElem?_eq_some_iff.1 hh).1 (fun hx => by have := hO g hx; omega)).trans hh, r⟩
theorem appendedU {W w1 : World} {n₀ B : Nat} {t e : TypeId} {v v' : Value} {k m : Nat} {xs ys : List Value} {tmp : Obj}
    (hv : Boxed W B t v) (hte : t ≠ e) (hrow : W.ownsRow n₀ e 1 v k xs)
    (hown' : w1.ownsRow n₀ e 1 v' m ys) (hgrow : (W.alloc tmp).grownBy w1 v.ownBlock) :
    Boxed w1 B t v ∧ Boxed (w1.setCell ⟨B, 0, none⟩ v') B t v' ∧ (w1.setCell ⟨B, 0, none⟩ v').ownsRow n₀ e 1 v' m ys ∧ KeepsOthers W (w1.setCell ⟨B, 0, none⟩ v') ∧ UpO (fun k => k = B ∨ n₀ ≤ k) W (w1.setCell ⟨B, 0, none⟩ v') := by
  have base0 : ∀ {W : World} {v : Value} {k : Nat} {xs : List Value}, W.ownsRow n₀ e 1 v k xs → W.ownsRow 0 e 1 v k xs := fun h => ⟨h.1, h.2.imp id fun ⟨g, cap, cur, hv, hg, r⟩ => ⟨g, cap, cur, hv, Nat.zero_le _, r⟩⟩
  obtain ⟨h1, h2, h3, h4, _⟩ := hv.appended (n₀ := 0) hte (base0 hrow) (Nat.zero_le _) (Nat.zero_le _) (base0 hown') hgrow
  refine ⟨h1, h2, hown'.kept (grownBy_setCell' w1 B v') (.inr (h1.not_row hte hown').symm), h4, ?_⟩
  refine UpO.trans (b := w1) (O' := fun k => k = B) ⟨hgrow.os, hgrow.tape, hgrow.output, Nat.le_trans (by simp) hgrow.size, fun i hi hn => ?_⟩ (.of_up ((Up.refl B w1).set 0 v') rfl) (fun x hx => .inl (.inl hx))
  refine (hgrow.block i (by simp; omega) (fun ej => ?_)).trans (Below.heap_alloc _ _ _ hi)
  rcases hrow.2 with ⟨rfl, _⟩ | ⟨g, cap, cur, rfl, hb, _, _⟩
  · simp [Value.ownBlock] at ej
  · obtain rfl : g = i := by simpa [Value.ownBlock] using ej.symm
    exact hn (.inr hb)
theorem own_turned {t : Nat} {a : Nat → Option Addr} {i : Nat} (hi : i < 70) {p1 : Option Addr} (h : ∀ p, p1 = some p → QB (a i) p.block) {k : Nat} (hk : Own t (updF a i p1) k) : Own t a k := by
  rcases hk with rfl | ⟨j, hj, p, hp, rfl⟩
  · exact .inl rfl
  · by_cases e : j = i
    · subst e
      rw [updF_same] at hp
      exact .inr ⟨j, hj, h p hp⟩
    · rw [updF_ne _ _ e] at hp
      exact .inr ⟨j, hj, p, hp, rfl⟩
theorem own_slice {w : World} {base : Nat} {e : TypeId} {size : Nat} {v : Value} {n : Nat} {xs : List Value} (h : w.ownsRow base e size v n xs) : ∃ a c, v = .slice a n c := by
  rcases h.2 with ⟨h1, h2⟩ | ⟨g, cap, cur, hv, _⟩
  · exact ⟨none, 0, by rw [h1, h2]⟩
  · exact ⟨_, _, hv⟩
set_option maxRecDepth 100000 in
set_option maxHeartbeats 4000000 in
theorem give_any (t : Nat) (n : Int) (s : Nat → Lk) (a : Nat → Option Addr) (c : Nat → Nat) (hl : ∀ i, i < 70 → (s i).q.length ≤ 1000000) (he : ∀ i, i < 70 → ∀ y ∈ (s i).q, 0 ≤ y ∧ y < 4) (x : Int) (h0 : 0 ≤ x) (hx : x < n) (hn : n ≤ 4) (w : World) (h : TAt w t n s a c) :
    Calls Try.prog 8 #[.pointer (some ⟨t, 0, none⟩), .int .i64 x] w (GiveP w t n a (giveS s x) (giveO s x)) := by
  obtain ⟨i0, hi0, hz0, hz1, hz2⟩ := info_parts8 info_int
  have HL := Lib.hid hl
  have HE := Lib.hid he
  have HX := Lib.hid (show 0 ≤ x ∧ x < 4 by omega)
  have hx0 : ¬ x < 0 := by omega
  have hxn : ¬ n ≤ x := by omega
  have hN0 : Nw w ((w.alloc (.cells #[.int .i64 x] 3)).alloc (.cells #[.slice none 0 0] 30)) := (Nw.refl.alloc _).alloc _
  have HT := Lib.hid (h.nw hN0)
  have HN0 := Lib.hid hN0
  have hlt := h.lt
  have HOL := Lib.hid (fun k hk => h.own_lt (k := k) hk)
  have bX := (Boxed.new w 3 (.int .i64 x)).alloc (.cells #[.slice none 0 0] 30)
  have bO := Boxed.new (w.alloc (.cells #[.int .i64 x] 3)) 30 (.slice none 0 0)
  have hsz : ((w.alloc (.cells #[.int .i64 x] 3)).alloc (.cells #[.slice none 0 0] 30)).heap.size = w.heap.size + 2 := by simp
  rw [World.size_alloc] at bO
  have cX := bX.cell
  have cW := HT.out.w
  have HMV := Lib.hid (Moved.nw h hN0)
  have HBX := Lib.hid bX
  have HBO := Lib.hid bO
  clear h hl he hN0 bX bO h0
  refine (callsIn_wide (n := 9)).1 ?_
  refine callsIn_of_wp_marks Try.func8 rfl trivial ?_ rfl
  simp only [Try.ntmps8, List.size_toArray, List.length_cons, List.length_nil, Nat.reduceAdd, Nat.reduceSub, Array.replicate_succ, Array.replicate_zero, List.push_toArray, List.append_toArray, List.nil_append, List.cons_append]
  refine wpIn_wide.2 ?_
  go_wp2_with fail
  go_quiet (fail)
  go_wp2_with fail
  have HM1 := Lib.hid (HMV.out.nw2 ((Nw.refl (w := (w.alloc (.cells #[.int .i64 x] 3)).alloc (.cells #[.slice none 0 0] 30))).drewN nq))
  have HBX1 := Lib.hid ((show Boxed (((w.alloc (.cells #[.int .i64 x] 3)).alloc (.cells #[.slice none 0 0] 30)).drewN nq) w.heap.size 3 (.int .i64 x) from HBX.out))
  have HBO1 := Lib.hid ((show Boxed (((w.alloc (.cells #[.int .i64 x] 3)).alloc (.cells #[.slice none 0 0] 30)).drewN nq) (w.heap.size + 1) 30 (.slice none 0 0) from HBO.out))
  have hsz2 : (((w.alloc (.cells #[.int .i64 x] 3)).alloc (.cells #[.slice none 0 0] 30)).drewN nq).heap.size = w.heap.size + 2 := hsz
  generalize ((w.alloc (.cells #[.int .i64 x] 3)).alloc (.cells #[.slice none 0 0] 30)).drewN nq = W2 at *
  clear cX cW HT HMV HN0 hsz HBX HBO
  go_loopw [23, 5, 6] (fun i _ _ wr => ∃ k : Nat, k ≤ 70 ∧ i = .int .i64 k ∧ Moved W2 t n a (relTo s x k) a c wr) (fun i _ _ _ => 70 - (intOf i).toNat)
  case atStart => exact ⟨0, by omega, rfl, .nw HM1.out.tt Nw.refl⟩
  case round =>
    obtain ⟨k, hk, rfl, hm⟩ := hrel
    have HM := Lib.hid hm
    clear hm
    by_cases hlt : k < 70
    · have hnB : ¬ Own t a w.heap.size := fun hh => by have := HOL.out _ hh; omega
      have cX := HM.out.u.cell HBX1.out.cell hnB
      have ch := HM.out.tt.h k hlt
      have cq := HM.out.tt.q k hlt
      have fh := HM.out.tt.fr (1 + k * 2)
      have hu := HM.out.tt.u k hlt
      rw [relTo_at] at ch cq hu
      have HQ := Lib.hid hu
      have HS := Lib.hid (relTo_succ s x k)
      have HA := Lib.hid (relTo_at s x k)
      have hql := HL.out k hlt
      have HNB := Lib.hid (fun hq : QB (a k) w.heap.size => hnB (.inr ⟨k, hlt, hq⟩))
      clear hu hnB
      cases hb : ((s k).h == x + 1)
      · have HK := Lib.hid (show relK x (s k) = ⟨(s k).h, lessL x (s k).q⟩ by rw [relK, hb, if_neg (by simp)])
        have hb' : ((s k).h == x + 1) = false := hb
        clear hb
        go_wp2_with fail
        go_quiet (fail)
        go_wp2_with fail
        have hN1 := (Nw.refl (w := wr)).drewN nq
        have HM1' := Lib.hid (HM.out.nw2 hN1)
        refine (delete_any w.heap.size x (a k) (c k) (s k).q hql _ (show (wr.drewN nq).cell? ⟨w.heap.size, 0, none⟩ = _ from cX) HNB.out (HQ.out.nw hN1)).mono ?_
        generalize wr.drewN nq = W3 at *
        rintro e w4 ⟨rfl, hq4, hu4⟩
        have hmid := HM1'.out.tt.mid hlt hu4
        have d1 := (hmid.2.1 (1 + k * 2 + 1)).trans (HM1'.out.tt.q k hlt)
        have f1 := (hmid.2.2 (1 + k * 2 + 1)).trans (HM1'.out.tt.fr _)
        have hM4 := HM1'.out.then (HM1'.out.tt.setQ k hlt (a k) (c k) (lessL x (s k).q) hu4 hq4 (fun p hp => .inl ⟨p, hp, rfl⟩))
        rw [updF_self a k (a k) rfl, updF_self c k (c k) rfl, HA.out, ← HK.out, ← HS.out] at hM4
        have HM4 := Lib.hid hM4
        clear hM4 hq4 hu4 hmid hN1 cX ch cq
        go_wp2_with fail
        go_roundw
        case rel => exact ⟨k + 1, by omega, by go_num, HM4.out⟩
        case measure => simp [intOf]; omega
      · have HK := Lib.hid (show relK x (s k) = ⟨0, lessL x (s k).q⟩ by rw [relK, hb, if_pos rfl])
        have hb' : ((s k).h == x + 1) = true := hb
        clear hb
        go_wp2_with fail
        go_quiet (fail)
        go_wp2_with fail
        have hN1 := (Nw.refl (w := wr)).drewN nq
        have hM1 := HM.out.nw2 hN1
        have HM1' := Lib.hid (hM1.then (hM1.tt.ho k hlt 0))
        have hu3 : UpO (Own t a) (wr.drewN nq) ((wr.drewN nq).setCell ⟨t, 1 + k * 2, none⟩ (.int .i64 0)) := .of_up ((Up.refl t _).set _ _) (.inl rfl)
        have cX3 := hu3.cell (show (wr.drewN nq).cell? ⟨w.heap.size, 0, none⟩ = some (.int .i64 x) from cX) (fun hh => by have := HOL.out _ hh; dsimp only at this; omega)
        have cq3 := HM1'.out.tt.u k hlt
        rw [updF_same, relTo_at] at cq3
        refine (delete_any w.heap.size x (a k) (c k) (s k).q hql _ cX3 HNB.out cq3).mono ?_
        clear hu3 hM1 hN1 cX3 cq3 cX ch cq
        generalize (wr.drewN nq).setCell ⟨t, 1 + k * 2, none⟩ (.int .i64 0) = W3 at *
        rintro e w4 ⟨rfl, hq4, hu4⟩
        have hmid := HM1'.out.tt.mid hlt hu4
        have d1 := (hmid.2.1 (1 + k * 2 + 1)).trans (HM1'.out.tt.q k hlt)
        have f1 := (hmid.2.2 (1 + k * 2 + 1)).trans (HM1'.out.tt.fr _)
        have hM4 := HM1'.out.then (HM1'.out.tt.setQ k hlt (a k) (c k) (lessL x (s k).q) hu4 hq4 (fun p hp => .inl ⟨p, hp, rfl⟩))
        rw [updF_self a k (a k) rfl, updF_self c k (c k) rfl, updF_same, updF_updF, ← HK.out, ← HS.out] at hM4
        have HM4 := Lib.hid hM4
        clear hM4 hq4 hu4 hmid
        go_wp2_with fail
        go_roundw
        case rel => exact ⟨k + 1, by omega, by go_num, HM4.out⟩
        case measure => simp [intOf]; omega
    · obtain rfl : k = 70 := by omega
      go_wp2_with fail
      refine (callsIn_wide.1 (ready_in Fence.wide 9 trivial rfl t _)).mono ?_
      rintro e w5 ⟨rfl, rfl⟩
      have hN5 : Nw wr (wr.alloc (.cells #[.pointer (some ⟨t, 0, none⟩)] 24)) := Nw.refl.alloc _
      have HM5 := Lib.hid (HM1.out.then (HM.out.nw2 hN5))
      have bT := Boxed.new wr 24 (.pointer (some ⟨t, 0, none⟩))
      have hsz5 : (wr.alloc (.cells #[.pointer (some ⟨t, 0, none⟩)] 24)).heap.size = wr.heap.size + 1 := by simp
      have hsz4 := HM.out.u.size
      have bO5 : Boxed (wr.alloc (.cells #[.pointer (some ⟨t, 0, none⟩)] 24)) (w.heap.size + 1) 30 (.slice none 0 0) := (hN5.b.block _ (by omega)).trans ((HM.out.u.block _ (by omega) (fun hh => by have := HOL.out _ hh; omega)).trans HBO1.out)
      go_wp2_with fail
      generalize wr.alloc (.cells #[.pointer (some ⟨t, 0, none⟩)] 24) = W5 at *
      have HS1 := Lib.hid (show ∀ i, i < 70 → (relTo s x 70 i).q.length ≤ 1000000 from fun i hi => by
        unfold relTo; rw [if_pos hi]; exact Nat.le_trans (lessL_length _ _) (HL.out i hi))
      have HE1 := Lib.hid (show ∀ i, i < 70 → ∀ y ∈ (relTo s x 70 i).q, 0 ≤ y ∧ y < 4 from fun i hi y hy => by
        unfold relTo at hy; rw [if_pos hi] at hy; exact HE.out i hi y (List.mem_filter.1 hy).1)
      have HGS : Hid (giveS s x = popL (relTo s x 70) (looseL 70 (rdyB (relTo s x 70)) 70) ∧ giveO s x = outL (relTo s x 70) (looseL 70 (rdyB (relTo s x 70)) 70)) := ⟨rfl, rfl⟩
      generalize relTo s x 70 = s1 at *
      have HTB := Lib.hid bT
      have HBO5 := Lib.hid bO5
      have hoB : ∀ k, Own t a k → k < w.heap.size := HOL.out
      clear HM HM1 HBX1 HBO1 hN5 bT bO5
      refine wpIn_wide.1 (wpIn_range_R (n := 9) rfl (by omega) (gf := 28) (lb := #[.pointer (some ⟨wr.heap.size, 0, none⟩)]) rfl trivial (enters_of Try.func28 (by kernel_rfl) rfl)
        (fun _ => rfl)
        (fun pre W => (∃ v, Boxed W (w.heap.size + 1) 30 v ∧ W.ownsRow W5.heap.size 3 1 v pre.length ((outL s1 pre).map (.int .i64)) ∧ True) ∧ PopI W5 t n s1 a (w.heap.size + 1) pre W)
        (fun _ _ _ => False)
        (ready_stops Fence.wide _ trivial rfl (by omega) wr.heap.size t s1 _
          (fun pre W hi => by obtain ⟨_, a', c', _, _, hu⟩ := hi; exact hu.cell HTB.out.cell (fun hh => by rcases hh with hh | hh; have := hoB _ hh; dsimp only at this; omega; dsimp only at hh; omega))
          (fun pre W k hk hi hp => by obtain ⟨_, a', c', ht, _, _⟩ := hi; have := ht.h k hk; rwa [popL_other pre k s1 (fun x hx => by have := hp x hx; omega)] at this)
          (fun pre W k hk hi hp => by obtain ⟨_, a', c', ht, _, _⟩ := hi; have := ht.q k hk; rw [popL_other pre k s1 (fun x hx => by have := hp x hx; omega)] at this; exact ⟨_, _, this⟩) W5)
        (OwnFrom.and (Own.from (holdsRow_own W5.heap.size (w.heap.size + 1) 30 3 1 (fun pre => pre.length) (fun pre => (outL s1 pre).map (.int .i64)) (fun _ _ => True)) _) (popI_own W5 t n s1 a (w.heap.size + 1) (fun k hk => by have := hoB k hk; omega)))
        (fun _ _ _ _ _ hs _ _ => hs)
        ⟨⟨_, HBO5.out, ⟨rfl, .inl ⟨rfl, rfl⟩⟩, trivial⟩, a, c, HM5.out.tt, fun k hk => hk, .refl _ _⟩
        (fun x t' => t'.setIfInBounds 7 (.pointer (some ⟨t, 1 + x.1 * 2, none⟩)))
        ?assign ?body ?done ?stop)
      case assign =>
        rintro l pre x W K _ hi hK
        obtain ⟨xx, hxx⟩ : ∃ xx, 1 + x.1 * 2 = xx := ⟨_, rfl⟩
        unfold rE at hK ⊢
        rw [hxx] at hK ⊢
        simp [Array.zip, go_sem] at hK ⊢
        gi_wp2
        exact hK
      case body =>
        rintro l pre x W hl _ ⟨⟨v, bOW, hrow, _⟩, a', c', ht, hsub, hu⟩ ⟨hrd, hpre⟩
        have hx70 := x.2
        have hsW := hu.size
        have HLN := Lib.hid (show (popL s1 pre) x.1 = s1 x.1 from popL_other pre x.1 s1 (fun y hy => by rw [hpre] at hy; have := looseL_lt y hy; omega))
        have HPS := Lib.hid (popL_snoc s1 pre x)
        have HOS := Lib.hid (outL_snoc s1 pre x)
        have HPL := Lib.hid (show pre.length ≤ 70 by rw [hpre]; exact Nat.le_trans looseL_length (by omega))
        have hpl : pre.length ≤ 70 := HPL.out
        obtain ⟨hh0, hq0⟩ : (s1 x.1).h = 0 ∧ 0 < (s1 x.1).q.length := by
          unfold rdyB at hrd
          rw [Bool.and_eq_true, beq_iff_eq, decide_eq_true_eq] at hrd
          exact hrd
        clear hrd hpre
        obtain ⟨f, r, hfr⟩ : ∃ f r, (s1 x.1).q = f :: r := by
          cases hq : (s1 x.1).q with
          | nil => rw [hq] at hq0; cases hq0
          | cons f r => exact ⟨f, r, rfl⟩
        clear hq0
        have HH0 := Lib.hid hh0
        have HFR := Lib.hid hfr
        have hcq := ht.q x.1 hx70
        have hch := ht.h x.1 hx70
        have huq := ht.u x.1 hx70
        rw [HLN.out] at hcq hch huq HPS
        rw [hfr] at hcq huq HOS
        rw [hh0] at hch
        have hfb := HE1.out x.1 hx70 f (by rw [hfr]; exact List.mem_cons_self)
        have hwf : IntKind.i64.wrap (f + 1) = f + 1 := IntWalk.i64_in _ (by omega)
        clear hh0 hfr
        have fq := ht.fr (1 + x.1 * 2 + 1)
        have fh := ht.fr (1 + x.1 * 2)
        obtain ⟨b, off, hab, hcf, hc1, hrc, hmx⟩ := huq.first
        have hcm : (c' x.1 : Int) ≤ 9223372036854775807 := by unfold maxLen at hmx; omega
        have HREST := Lib.hid (Qu.rest (hab ▸ huq))
        rw [hab] at hcq
        have HAB := Lib.hid hab
        have HT := Lib.hid ht
        have HU := Lib.hid hu
        have HSUB := Lib.hid hsub
        have HROW := Lib.hid hrow
        have HBOW := Lib.hid bOW
        have HMX := Lib.hid hmx
        clear hab ht hu hsub hrow bOW huq hmx
        unfold rE
        simp [Array.zip, go_sem]
        obtain ⟨cc, hcc⟩ : ∃ cc, c' x.1 = cc := ⟨_, rfl⟩
        rw [hcc] at hcq hrc hcm HREST hc1
        have HCC := Lib.hid hcc
        clear hcc
        simp only [List.length_cons] at hcq
        have hq1 : (1 : Int) ≤ (r.length : Int) + 1 := by omega
        have hq2 : (r.length : Int) + 1 ≤ (cc : Int) := by omega
        have hq3 : 1 ≤ r.length + 1 := by omega
        have hq6 : (0 : Int) ≤ (r.length : Int) := by omega
        have hq7 : ((r.length : Int) + 1).toNat = r.length + 1 := by omega
        have hfol : Try.prog.follows .mixedOrders = true := by kernel_rfl
        obtain rfl | hc2 : cc = 1 ∨ 1 < cc := by omega
        · obtain ⟨rfl, hq9⟩ := HREST.out.2 rfl
          have HQ9 := Lib.hid hq9
          clear hq9
          gi_wp2
          refine wpIn_region_round (F := Fence.wide) rfl (by kernel_rfl) l (by kernel_rfl) ?_
          refine takeIn (i := 0) (v := ?_) 60 rfl rfl rfl ?_ ?_ ?_ (fun _ _ _ h => h) ?_ ?_
          rotate_left
          · kernel_rfl
          · kernel_rfl
          · kernel_rfl
          · refine ⟨Or.inl (And.intro ?_ ?_), fun _ => rfl⟩
            · rfl
            · intro w
              first | (go_simp; done) | (go_simp; with_reducible rfl)
          simp only [List.setIfInBounds_toArray, List.set_cons_zero, List.set_cons_succ]
          refine takeIn (i := 1) (v := ?_) 61 rfl rfl rfl ?_ ?_ ?_ (fun _ _ _ h => h) ?_ ?_
          rotate_left
          · kernel_rfl
          · kernel_rfl
          · kernel_rfl
          · refine ⟨Or.inl (And.intro ?_ ?_), fun _ => rfl⟩
            · rfl
            · intro w
              first | (go_simp; done) | (go_simp; with_reducible rfl)
          simp only [List.setIfInBounds_toArray, List.set_cons_zero, List.set_cons_succ]
          refine takeIn (i := 2) (v := ?_) 62 rfl rfl rfl ?_ ?_ ?_ (fun _ _ _ h => h) ?_ ?_
          rotate_left
          · kernel_rfl
          · kernel_rfl
          · kernel_rfl
          · refine ⟨Or.inl (And.intro ?_ ?_), fun _ => rfl⟩
            · rfl
            · intro w
              first | (go_simp; done) | (go_simp; with_reducible rfl)
          simp only [List.setIfInBounds_toArray, List.set_cons_zero, List.set_cons_succ]
          refine takeIn (i := 3) (v := ?_) 63 rfl rfl rfl ?_ ?_ ?_ (fun _ _ _ h => h) ?_ ?_
          rotate_left
          · kernel_rfl
          · kernel_rfl
          · kernel_rfl
          · refine ⟨Or.inl (And.intro ?_ ?_), fun _ => rfl⟩
            · rfl
            · intro w
              first | (go_simp; done) | (go_simp; with_reducible rfl)
          simp only [List.setIfInBounds_toArray, List.set_cons_zero, List.set_cons_succ]
          refine takeIn (i := 4) (v := ?_) 64 rfl rfl rfl ?_ ?_ ?_ (fun _ _ _ h => h) ?_ ?_
          rotate_left
          · kernel_rfl
          · kernel_rfl
          · kernel_rfl
          · refine ⟨Or.inl (And.intro ?_ ?_), fun _ => rfl⟩
            · rfl
            · intro w
              first | (go_simp; done) | (go_simp; with_reducible rfl)
          simp only [List.setIfInBounds_toArray, List.set_cons_zero, List.set_cons_succ]
          refine takeIn (i := 5) (v := ?_) 65 rfl rfl rfl ?_ ?_ ?_ (fun _ _ _ h => h) ?_ ?_
          rotate_left
          · kernel_rfl
          · kernel_rfl
          · kernel_rfl
          · refine ⟨Or.inl (And.intro ?_ ?_), fun _ => rfl⟩
            · rfl
            · intro w
              first | (go_simp; done) | (go_simp; with_reducible rfl)
          simp only [List.setIfInBounds_toArray, List.set_cons_zero, List.set_cons_succ]
          refine takeIn (i := 6) (v := ?_) 66 rfl rfl rfl ?_ ?_ ?_ (fun _ _ _ h => h) ?_ ?_
          rotate_left
          · kernel_rfl
          · kernel_rfl
          · kernel_rfl
          · refine ⟨Or.inl (And.intro ?_ ?_), fun _ => rfl⟩
            · rfl
            · intro w
              first | (go_simp; done) | (go_simp; with_reducible rfl)
          simp only [List.setIfInBounds_toArray, List.set_cons_zero, List.set_cons_succ]
          refine wpAnyIn_ready (rs := [7]) (by kernel_rfl) (by simp) ?_
          refine AllReadyIn.cons rfl (fun K hK => ?_) AllReadyIn.nil
          go_simp
          refine hK _ _ ?_
          clear hK K
          refine takeIn (i := 8) (v := ?_) 68 rfl rfl rfl ?_ ?_ ?_ (fun _ _ _ h => h) ?_ ?_
          rotate_left
          · kernel_rfl
          · kernel_rfl
          · kernel_rfl
          · refine ⟨Or.inl (And.intro ?_ ?_), fun _ => rfl⟩
            · rfl
            · intro w
              first | (go_simp; done) | (go_simp; with_reducible rfl)
          simp only [List.setIfInBounds_toArray, List.set_cons_zero, List.set_cons_succ]
          refine takeIn (i := 9) (v := ?_) 69 rfl rfl rfl ?_ ?_ ?_ (fun _ _ _ h => h) ?_ ?_
          rotate_left
          · kernel_rfl
          · kernel_rfl
          · kernel_rfl
          · refine ⟨Or.inl (And.intro ?_ ?_), fun _ => rfl⟩
            · rfl
            · intro w
              first | (go_simp; done) | (go_simp; with_reducible rfl)
          simp only [List.setIfInBounds_toArray, List.set_cons_zero, List.set_cons_succ]
          refine takeIn (i := 10) (v := ?_) 70 rfl rfl rfl ?_ ?_ ?_ (fun _ _ _ h => h) ?_ ?_
          rotate_left
          · kernel_rfl
          · kernel_rfl
          · kernel_rfl
          · refine ⟨Or.inl (And.intro ?_ ?_), fun _ => rfl⟩
            · rfl
            · intro w
              first | (go_simp; done) | (go_simp; with_reducible rfl)
          simp only [List.setIfInBounds_toArray, List.set_cons_zero, List.set_cons_succ]
          refine wpAnyIn_ready (rs := [11]) (by kernel_rfl) (by simp) ?_
          refine AllReadyIn.cons rfl (fun K hK => ?_) AllReadyIn.nil
          go_simp
          refine hK _ _ ?_
          clear hK K
          refine takeIn (i := 12) (v := ?_) 71 rfl rfl rfl ?_ ?_ ?_ (fun _ _ _ h => h) ?_ ?_
          rotate_left
          · kernel_rfl
          · kernel_rfl
          · kernel_rfl
          · refine ⟨Or.inl (And.intro ?_ ?_), fun _ => rfl⟩
            · rfl
            · intro w
              first | (go_simp; done) | (go_simp; with_reducible rfl)
          simp only [List.setIfInBounds_toArray, List.set_cons_zero, List.set_cons_succ]
          refine takeIn (i := 13) (v := ?_) 72 rfl rfl rfl ?_ ?_ ?_ (fun _ _ _ h => h) ?_ ?_
          rotate_left
          · kernel_rfl
          · kernel_rfl
          · kernel_rfl
          · refine ⟨Or.inl (And.intro ?_ ?_), fun _ => rfl⟩
            · rfl
            · intro w
              first | (go_simp; done) | (go_simp; with_reducible rfl)
          simp only [List.setIfInBounds_toArray, List.set_cons_zero, List.set_cons_succ]
          refine wpAnyIn_ready (rs := [14]) (by kernel_rfl) (by simp) ?_
          refine AllReadyIn.cons rfl (fun K hK => ?_) AllReadyIn.nil
          go_simp
          refine hK _ _ ?_
          clear hK K
          refine wpAnyIn_done (by kernel_rfl) ?_ _
          have hm := (HT.out.ho x.1 hx70 (f + 1)).then ((HT.out.ho x.1 hx70 (f + 1)).tt.setQ x.1 hx70 (some ⟨b, off, none⟩) (0) ([] : List Int) (UpO.refl _ _) (HQ9.out.setFar t (1 + x.1 * 2) (.int .i64 (f + 1)) (fun p hp => by cases hp; exact HT.out.ne x.1 hx70 ⟨b, off, none⟩ HAB.out)) (fun p hp => by cases hp; exact .inl ⟨_, HAB.out, rfl⟩))
          rw [updF_same, updF_updF] at hm
          have hst : updF (popL s1 pre) x.1 ⟨f + 1, ([] : List Int)⟩ = popL s1 (pre ++ [x]) := by rw [HPS.out]; simp [popK, HFR.out]
          rw [hst] at hm
          have HM6 := Lib.hid (hm.nw2 Nw.refl.drew)
          clear hst hm
          generalize ((W.setCell ⟨t, 1 + x.1 * 2, none⟩ (.int .i64 (f + 1))).setCell ⟨t, 1 + x.1 * 2 + 1, none⟩ (.slice (some ⟨b, off, none⟩) 0 (0))).drew = W1 at *
          have HOW := Lib.hid (show ∀ k, Own t (updF a' x.1 (some ⟨b, off, none⟩)) k → Own t a' k from fun k hk => own_turned hx70 (fun p hp => by cases hp; exact ⟨_, HAB.out, rfl⟩) hk)
          have hlo : ∀ k, Own t a' k → k < w.heap.size := fun k hk => hoB k (HSUB.out k hk)
          have bO2 : Boxed W1 (w.heap.size + 1) 30 v := (HM6.out.u.block _ (by omega) (fun hh => by have := hlo _ hh; omega)).trans HBOW.out
          have hrow2 := own_upo HM6.out.u HROW.out (fun k hk => by have := hlo k hk; omega)
          have hs6 := HM6.out.u.size
          have cO := bO2.cell
          have fO := bO2.frozen
          have HHS := Lib.hid (show (f :: ([] : List Int)).headD 0 = f from rfl)
          gi_wp2_with (gi_at_builtin; refine wpListIn_append_own _ rfl _ _ 30 rfl W5.heap.size 3 i0 (.int .i64 0) 1 8 Try.underlying30 hi0 hz0 hz1 hz2 rfl (by decide) _ _ _ rfl (hrow2.alloc _) ⟨W1.heap.size, 0, none⟩ 1 1 [.int .i64 f] rfl rfl (cell_one_new _ _ _) (by simp [Value.oneCell']) (by unfold maxLen; omega) (by omega) (by simp; omega) ?_; intro v' w7 hown' hgrow _; obtain ⟨g', cap', rfl⟩ := ownsRow_succ hown'; obtain ⟨hv1, hv2, hr2, hk2, hb2⟩ := appendedU bO2 (by decide) hrow2 hown' hgrow; have hcc1 := hv1.cell; have hff1 := hv1.frozen)
          refine ⟨(HM6.out.u.keepsFrom (fun k hk => by have := hlo k hk; omega)).trans (hk2.from _), ⟨_, hv2, by rw [HOS.out, List.map_append, List.length_append]; exact hr2⟩, _, _, HM6.out.tt.upo hb2 (fun k hk hh => by have := hlo k (HOW.out k hk); omega), fun k hk => HSUB.out k (HOW.out k hk), ?_⟩
          exact (HU.out.trans HM6.out.u (fun k hk => .inl (.inl (HSUB.out k hk)))).trans hb2 (fun k hk => by rcases hk with hk | hk; exact .inl (.inr hk); exact .inr hk)
        · have hc3 : ¬ cc = 1 := by omega
          gi_wp2
          refine wpIn_region_round (F := Fence.wide) rfl (by kernel_rfl) l (by kernel_rfl) ?_
          refine takeIn (i := 0) (v := ?_) 60 rfl rfl rfl ?_ ?_ ?_ (fun _ _ _ h => h) ?_ ?_
          rotate_left
          · kernel_rfl
          · kernel_rfl
          · kernel_rfl
          · refine ⟨Or.inl (And.intro ?_ ?_), fun _ => rfl⟩
            · rfl
            · intro w
              first | (go_simp; done) | (go_simp; with_reducible rfl)
          simp only [List.setIfInBounds_toArray, List.set_cons_zero, List.set_cons_succ]
          refine takeIn (i := 1) (v := ?_) 61 rfl rfl rfl ?_ ?_ ?_ (fun _ _ _ h => h) ?_ ?_
          rotate_left
          · kernel_rfl
          · kernel_rfl
          · kernel_rfl
          · refine ⟨Or.inl (And.intro ?_ ?_), fun _ => rfl⟩
            · rfl
            · intro w
              first | (go_simp; done) | (go_simp; with_reducible rfl)
          simp only [List.setIfInBounds_toArray, List.set_cons_zero, List.set_cons_succ]
          refine takeIn (i := 2) (v := ?_) 62 rfl rfl rfl ?_ ?_ ?_ (fun _ _ _ h => h) ?_ ?_
          rotate_left
          · kernel_rfl
          · kernel_rfl
          · kernel_rfl
          · refine ⟨Or.inl (And.intro ?_ ?_), fun _ => rfl⟩
            · rfl
            · intro w
              first | (go_simp; done) | (go_simp; with_reducible rfl)
          simp only [List.setIfInBounds_toArray, List.set_cons_zero, List.set_cons_succ]
          refine takeIn (i := 3) (v := ?_) 63 rfl rfl rfl ?_ ?_ ?_ (fun _ _ _ h => h) ?_ ?_
          rotate_left
          · kernel_rfl
          · kernel_rfl
          · kernel_rfl
          · refine ⟨Or.inl (And.intro ?_ ?_), fun _ => rfl⟩
            · rfl
            · intro w
              first | (go_simp; done) | (go_simp; with_reducible rfl)
          simp only [List.setIfInBounds_toArray, List.set_cons_zero, List.set_cons_succ]
          refine takeIn (i := 4) (v := ?_) 64 rfl rfl rfl ?_ ?_ ?_ (fun _ _ _ h => h) ?_ ?_
          rotate_left
          · kernel_rfl
          · kernel_rfl
          · kernel_rfl
          · refine ⟨Or.inl (And.intro ?_ ?_), fun _ => rfl⟩
            · rfl
            · intro w
              first | (go_simp; done) | (go_simp; with_reducible rfl)
          simp only [List.setIfInBounds_toArray, List.set_cons_zero, List.set_cons_succ]
          refine takeIn (i := 5) (v := ?_) 65 rfl rfl rfl ?_ ?_ ?_ (fun _ _ _ h => h) ?_ ?_
          rotate_left
          · kernel_rfl
          · kernel_rfl
          · kernel_rfl
          · refine ⟨Or.inl (And.intro ?_ ?_), fun _ => rfl⟩
            · rfl
            · intro w
              first | (go_simp; done) | (go_simp; with_reducible rfl)
          simp only [List.setIfInBounds_toArray, List.set_cons_zero, List.set_cons_succ]
          refine takeIn (i := 6) (v := ?_) 66 rfl rfl rfl ?_ ?_ ?_ (fun _ _ _ h => h) ?_ ?_
          rotate_left
          · kernel_rfl
          · kernel_rfl
          · kernel_rfl
          · refine ⟨Or.inl (And.intro ?_ ?_), fun _ => rfl⟩
            · rfl
            · intro w
              first | (go_simp; done) | (go_simp; with_reducible rfl)
          simp only [List.setIfInBounds_toArray, List.set_cons_zero, List.set_cons_succ]
          refine wpAnyIn_ready (rs := [7]) (by kernel_rfl) (by simp) ?_
          refine AllReadyIn.cons rfl (fun K hK => ?_) AllReadyIn.nil
          go_simp
          refine hK _ _ ?_
          clear hK K
          refine takeIn (i := 8) (v := ?_) 68 rfl rfl rfl ?_ ?_ ?_ (fun _ _ _ h => h) ?_ ?_
          rotate_left
          · kernel_rfl
          · kernel_rfl
          · kernel_rfl
          · refine ⟨Or.inl (And.intro ?_ ?_), fun _ => rfl⟩
            · rfl
            · intro w
              first | (go_simp; done) | (go_simp; with_reducible rfl)
          simp only [List.setIfInBounds_toArray, List.set_cons_zero, List.set_cons_succ]
          refine takeIn (i := 9) (v := ?_) 69 rfl rfl rfl ?_ ?_ ?_ (fun _ _ _ h => h) ?_ ?_
          rotate_left
          · kernel_rfl
          · kernel_rfl
          · kernel_rfl
          · refine ⟨Or.inl (And.intro ?_ ?_), fun _ => rfl⟩
            · rfl
            · intro w
              first | (go_simp; done) | (go_simp; with_reducible rfl)
          simp only [List.setIfInBounds_toArray, List.set_cons_zero, List.set_cons_succ]
          refine takeIn (i := 10) (v := ?_) 70 rfl rfl rfl ?_ ?_ ?_ (fun _ _ _ h => h) ?_ ?_
          rotate_left
          · kernel_rfl
          · kernel_rfl
          · kernel_rfl
          · refine ⟨Or.inl (And.intro ?_ ?_), fun _ => rfl⟩
            · rfl
            · intro w
              first | (go_simp; done) | (go_simp; with_reducible rfl)
          simp only [List.setIfInBounds_toArray, List.set_cons_zero, List.set_cons_succ]
          refine wpAnyIn_ready (rs := [11]) (by kernel_rfl) (by simp) ?_
          refine AllReadyIn.cons rfl (fun K hK => ?_) AllReadyIn.nil
          go_simp
          refine hK _ _ ?_
          clear hK K
          refine takeIn (i := 12) (v := ?_) 71 rfl rfl rfl ?_ ?_ ?_ (fun _ _ _ h => h) ?_ ?_
          rotate_left
          · kernel_rfl
          · kernel_rfl
          · kernel_rfl
          · refine ⟨Or.inl (And.intro ?_ ?_), fun _ => rfl⟩
            · rfl
            · intro w
              first | (go_simp; done) | (go_simp; with_reducible rfl)
          simp only [List.setIfInBounds_toArray, List.set_cons_zero, List.set_cons_succ]
          refine takeIn (i := 13) (v := ?_) 72 rfl rfl rfl ?_ ?_ ?_ (fun _ _ _ h => h) ?_ ?_
          rotate_left
          · kernel_rfl
          · kernel_rfl
          · kernel_rfl
          · refine ⟨Or.inl (And.intro ?_ ?_), fun _ => rfl⟩
            · rfl
            · intro w
              first | (go_simp; done) | (go_simp; with_reducible rfl)
          simp only [List.setIfInBounds_toArray, List.set_cons_zero, List.set_cons_succ]
          refine wpAnyIn_ready (rs := [14]) (by kernel_rfl) (by simp) ?_
          refine AllReadyIn.cons rfl (fun K hK => ?_) AllReadyIn.nil
          go_simp
          refine hK _ _ ?_
          clear hK K
          refine wpAnyIn_done (by kernel_rfl) ?_ _
          have hm := (HT.out.ho x.1 hx70 (f + 1)).then ((HT.out.ho x.1 hx70 (f + 1)).tt.setQ x.1 hx70 (some ⟨b, off + 1, none⟩) (cc - 1) r (UpO.refl _ _) ((HREST.out.1 hc2).setFar t (1 + x.1 * 2) (.int .i64 (f + 1)) (fun p hp => by cases hp; exact HT.out.ne x.1 hx70 ⟨b, off, none⟩ HAB.out)) (fun p hp => by cases hp; exact .inl ⟨_, HAB.out, rfl⟩))
          rw [updF_same, updF_updF] at hm
          have hst : updF (popL s1 pre) x.1 ⟨f + 1, r⟩ = popL s1 (pre ++ [x]) := by rw [HPS.out]; simp [popK, HFR.out]
          rw [hst] at hm
          have HM6 := Lib.hid (hm.nw2 Nw.refl.drew)
          clear hst hm
          generalize ((W.setCell ⟨t, 1 + x.1 * 2, none⟩ (.int .i64 (f + 1))).setCell ⟨t, 1 + x.1 * 2 + 1, none⟩ (.slice (some ⟨b, off + 1, none⟩) r.length (cc - 1))).drew = W1 at *
          have HOW := Lib.hid (show ∀ k, Own t (updF a' x.1 (some ⟨b, off + 1, none⟩)) k → Own t a' k from fun k hk => own_turned hx70 (fun p hp => by cases hp; exact ⟨_, HAB.out, rfl⟩) hk)
          have hlo : ∀ k, Own t a' k → k < w.heap.size := fun k hk => hoB k (HSUB.out k hk)
          have bO2 : Boxed W1 (w.heap.size + 1) 30 v := (HM6.out.u.block _ (by omega) (fun hh => by have := hlo _ hh; omega)).trans HBOW.out
          have hrow2 := own_upo HM6.out.u HROW.out (fun k hk => by have := hlo k hk; omega)
          have hs6 := HM6.out.u.size
          have cO := bO2.cell
          have fO := bO2.frozen
          have HHS := Lib.hid (show (f :: r).headD 0 = f from rfl)
          gi_wp2_with (gi_at_builtin; refine wpListIn_append_own _ rfl _ _ 30 rfl W5.heap.size 3 i0 (.int .i64 0) 1 8 Try.underlying30 hi0 hz0 hz1 hz2 rfl (by decide) _ _ _ rfl (hrow2.alloc _) ⟨W1.heap.size, 0, none⟩ 1 1 [.int .i64 f] rfl rfl (cell_one_new _ _ _) (by simp [Value.oneCell']) (by unfold maxLen; omega) (by omega) (by simp; omega) ?_; intro v' w7 hown' hgrow _; obtain ⟨g', cap', rfl⟩ := ownsRow_succ hown'; obtain ⟨hv1, hv2, hr2, hk2, hb2⟩ := appendedU bO2 (by decide) hrow2 hown' hgrow; have hcc1 := hv1.cell; have hff1 := hv1.frozen)
          refine ⟨(HM6.out.u.keepsFrom (fun k hk => by have := hlo k hk; omega)).trans (hk2.from _), ⟨_, hv2, by rw [HOS.out, List.map_append, List.length_append]; exact hr2⟩, _, _, HM6.out.tt.upo hb2 (fun k hk hh => by have := hlo k (HOW.out k hk); omega), fun k hk => HSUB.out k (HOW.out k hk), ?_⟩
          exact (HU.out.trans HM6.out.u (fun k hk => .inl (.inl (HSUB.out k hk)))).trans hb2 (fun k hk => by rcases hk with hk | hk; exact .inl (.inr hk); exact .inr hk)
      case done =>
        rintro D ys W hD rfl ⟨⟨v, bOW, hrow, _⟩, a', c', ht, hsub, hu⟩ hK
        obtain ⟨va, vc, rfl⟩ := own_slice hrow
        have cO := bOW.cell
        have fO := bOW.frozen
        have hsW := hu.size
        have hne0 : D ≠ w.heap.size + 1 := by omega
        have HRW := Lib.hid hrow
        have HU := Lib.hid hu
        have HT := Lib.hid ht
        have HSUB := Lib.hid hsub
        have HLE : Hid ((outL s1 (looseL 70 (rdyB s1) 70)).length = (looseL 70 (rdyB s1) 70).length) := outL_length _ _
        obtain ⟨N, hN⟩ : ∃ N, (looseL 70 (rdyB s1) 70).length = N := ⟨_, rfl⟩
        rw [hN] at cO bOW HRW HLE
        clear hN hrow hu ht hsub
        go_wp2_with fail
        have hK2 := (Below.heap_setCell W ⟨w.heap.size + 1, 0, none⟩ (.slice va N vc) D hne0).trans hK
        refine ⟨by simp, .inl ⟨_, _, rfl, run_takeDeferred hK2, ?_⟩⟩
        have bO2 := bOW.set (.slice va N vc)
        have hr2 : (W.setCell ⟨w.heap.size + 1, 0, none⟩ (.slice va N vc)).ownsRow W5.heap.size 3 1 (.slice va N vc) N ((outL s1 (looseL 70 (rdyB s1) 70)).map (.int .i64)) := HRW.out.kept (grownBy_setCell' W (w.heap.size + 1) _) (.inr (bOW.not_row (by decide) HRW.out).symm)
        have hr3 := ownsRow_putObj hr2 (.deferred none) hK2 rfl
        have bO3 : Boxed ((W.setCell ⟨w.heap.size + 1, 0, none⟩ (.slice va N vc)).putObj D (.deferred none)) (w.heap.size + 1) 30 (.slice va N vc) := (World.putObj_heap_other (Ne.symm hne0)).trans bO2
        have hc2 := bO3.cell
        have hu9 : UpO (fun k => k = w.heap.size + 1 ∨ k = D) W ((W.setCell ⟨w.heap.size + 1, 0, none⟩ (.slice va N vc)).putObj D (.deferred none)) :=
          UpO.trans (O' := fun k => k = D) (.of_up ((Up.refl (w.heap.size + 1) W).set 0 _) (.inl rfl)) ⟨rfl, rfl, rfl, by simp [World.putObj], fun k hk hn => World.putObj_heap_other hn⟩ (fun x hx => .inl (.inr hx))
        clear hr2 bO2 bO3 hK2 hK
        generalize (W.setCell ⟨w.heap.size + 1, 0, none⟩ (.slice va N vc)).putObj D (.deferred none) = W9 at *
        refine ⟨.slice va N vc, by simp [results, Try.f8, go_sem, hc2], va, vc, ?_, ?_, ?_, a', c', ?_, ?_, ?_⟩
        · rw [HGS.out.2, HLE.out]
        · rw [HGS.out.2]
          obtain ⟨_, _, he, _, hI⟩ := Ints.of_owns hr3
          cases he; exact hI
        · rw [HGS.out.2, HLE.out]; exact own_cap hr3
        · rw [HGS.out.1]
          exact HT.out.upo hu9 (fun k hk hh => by have := hoB k (HSUB.out k hk); omega)
        · exact (HM5.out.u.trans HU.out (fun k hk => by rcases hk with hk | hk; exact .inl hk; exact .inr (by omega))).trans hu9 (fun k hk => .inr (by have := HM5.out.u.size; omega))
        · exact fun k hk => .inl (HSUB.out k hk)
      case stop =>
        rintro D c pre W _ _ h _
        exact h.elim

end Go.Proofs.Ytdjncbfoecoedaa
