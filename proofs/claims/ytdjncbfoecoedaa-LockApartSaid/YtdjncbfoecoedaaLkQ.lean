/-
  LOCKS: sound.
-/
import Derived.Test.YtdjncbfoecoedaaLkP
import Derived.Deep.DeepCutAuto
namespace Go.Proofs.Ytdjncbfoecoedaa
open Go.RowKit Go.Shelf
set_option linter.unusedVariables false

/-- A row of 70 numbers. -/
structure Arr (W : World) (g : Nat) (f : Nat → Int) : Prop where
  c : ∀ i, i < 70 → W.cell? ⟨g, i, none⟩ = some (.int .i64 (f i))
  f : ∀ j, W.frozen? ⟨g, j, none⟩ = false
theorem Arr.lt {W : World} {g : Nat} {f : Nat → Int} (h : Arr W g f) : g < W.heap.size := (cell_lt (h.c 0 (by omega))).1
theorem Arr.nw {W W' : World} {g : Nat} {f : Nat → Int} (h : Arr W g f) (k : Nw W W') : Arr W' g f :=
  ⟨fun m hm => (k.b.cell (p := ⟨g, m, none⟩) h.lt).trans (h.c m hm), fun j => (k.b.frozen (p := ⟨g, j, none⟩) h.lt).trans (h.f j)⟩
theorem Arr.set {W : World} {g : Nat} {f : Nat → Int} (h : Arr W g f) (j : Nat) (v : Int) : Arr (W.setCell ⟨g, j, none⟩ (.int .i64 v)) g (fun m => if m = j then v else f m) :=
  ⟨fun m hm => cell_set W g _ _ _ _ (h.c m hm) _ (by by_cases e : m = j <;> simp [e]), fun i => by rw [World.frozen?_setCell]; exact h.f i⟩
theorem Arr.congr {W : World} {g : Nat} {u v : Nat → Int} (h : Arr W g u) (e : ∀ m, m < 70 → u m = v m) : Arr W g v := ⟨fun m hm => by rw [h.c m hm, e m hm], h.f⟩
def z70 : Array Value := #[.int .i64 0, .int .i64 0, .int .i64 0, .int .i64 0, .int .i64 0, .int .i64 0, .int .i64 0, .int .i64 0, .int .i64 0, .int .i64 0, .int .i64 0, .int .i64 0, .int .i64 0, .int .i64 0, .int .i64 0, .int .i64 0, .int .i64 0, .int .i64 0, .int .i64 0, .int .i64 0, .int .i64 0, .int .i64 0, .int .i64 0, .int .i64 0, .int .i64 0, .int .i64 0, .int .i64 0, .int .i64 0, .int .i64 0, .int .i64 0, .int .i64 0, .int .i64 0, .int .i64 0, .int .i64 0, .int .i64 0, .int .i64 0, .int .i64 0, .int .i64 0, .int .i64 0, .int .i64 0, .int .i64 0, .int .i64 0, .int .i64 0, .int .i64 0, .int .i64 0, .int .i64 0, .int .i64 0, .int .i64 0, .int .i64 0, .int .i64 0, .int .i64 0, .int .i64 0, .int .i64 0, .int .i64 0, .int .i64 0, .int .i64 0, .int .i64 0, .int .i64 0, .int .i64 0, .int .i64 0, .int .i64 0, .int .i64 0, .int .i64 0, .int .i64 0, .int .i64 0, .int .i64 0, .int .i64 0, .int .i64 0, .int .i64 0, .int .i64 0]
theorem arr_new (w : World) (t : TypeId) : Arr (w.alloc (.cells z70 t)) w.heap.size (fun _ => 0) :=
  ⟨fun m hm => by
    have he : z70 = (List.replicate 70 (Value.int .i64 0)).toArray := rfl
    rw [World.cell?_alloc_new, he, List.getElem?_toArray, List.getElem?_replicate, if_pos hm], fun j => by simp [go_sem]⟩
/-- The holders told so far: those of the workers below x, and of x the first k locks that it holds. -/
def toldF (s : Nat → Lk) (x k : Nat) (i : Nat) : Int := if (1 ≤ (s i).h ∧ (s i).h ≤ x) ∨ ((s i).h = x + 1 ∧ (i : Int) ∈ (heldL s x 70).take k) then (s i).h else 0
theorem heldL_sorted (s : Nat → Lk) (x : Int) (k : Nat) : (heldL s x k).Pairwise (· < ·) := by
  unfold heldL
  rw [List.pairwise_map]
  exact (List.Pairwise.imp (fun h => by omega) List.pairwise_lt_range).sublist List.filter_sublist
theorem heldL_get {s : Nat → Lk} {x : Int} {k : Nat} (hk : k < (heldL s x 70).length) : ∃ m : Nat, (heldL s x 70)[k] = (m : Int) ∧ m < 70 ∧ (s m).h = x + 1 := by
  obtain ⟨i, h1, h2, h3⟩ := heldL_mem.1 (List.getElem_mem hk)
  exact ⟨i, h3, h1, h2⟩
theorem heldL_lt {s : Nat → Lk} {x : Int} {j k : Nat} (hjk : j < k) (hk : k < (heldL s x 70).length) : (heldL s x 70)[j]'(Nat.lt_trans hjk hk) < (heldL s x 70)[k] :=
  (List.pairwise_iff_getElem.1 (heldL_sorted s x 70)) j k (Nat.lt_trans hjk hk) hk hjk
theorem told_fresh {s : Nat → Lk} {x k m : Nat} (hk : k < (heldL s x 70).length) (hm : (heldL s x 70)[k] = (m : Int)) (hh : (s m).h = x + 1) : toldF s x k m = 0 := by
  unfold toldF
  rw [if_neg]
  rintro (⟨h1, h2⟩ | ⟨_, h2⟩)
  · omega
  · obtain ⟨j, hj, he⟩ := List.getElem_of_mem h2
    rw [List.getElem_take] at he
    simp only [List.length_take] at hj
    have := heldL_lt (s := s) (x := x) (j := j) (k := k) (by omega) hk
    omega
theorem told_next {s : Nat → Lk} {x k m : Nat} (hk : k < (heldL s x 70).length) (hm : (heldL s x 70)[k] = (m : Int)) (hh : (s m).h = x + 1) (i : Nat) : (if i = m then (x : Int) + 1 else toldF s x k i) = toldF s x (k + 1) i := by
  unfold toldF
  rw [List.take_succ_eq_append_getElem hk, hm]
  by_cases e : i = m
  · subst e
    rw [if_pos rfl, if_pos (.inr ⟨hh, by simp⟩), hh]
  · rw [if_neg e]
    have : ((i : Int) ∈ (heldL s x 70).take k ++ [(m : Int)]) ↔ (i : Int) ∈ (heldL s x 70).take k := by
      rw [List.mem_append, List.mem_singleton]
      exact ⟨fun h => h.resolve_right (by omega), .inl⟩
    simp only [this]
theorem told_worker {s : Nat → Lk} {x : Nat} (i : Nat) (hi : i < 70) : toldF s x (heldL s x 70).length i = toldF s (x + 1) 0 i := by
  unfold toldF
  rw [List.take_length]
  by_cases h : (s i).h = x + 1
  · rw [if_pos (.inr ⟨h, heldL_mem.2 ⟨i, hi, h, rfl⟩⟩), if_pos (.inl ⟨by omega, by omega⟩)]
  · by_cases h2 : 1 ≤ (s i).h ∧ (s i).h ≤ x
    · rw [if_pos (.inl h2), if_pos (.inl ⟨h2.1, by omega⟩)]
    · rw [if_neg (fun hh => by rcases hh with hh | hh; exact h2 hh; exact h hh.1), if_neg (fun hh => by rcases hh with hh | hh; exact h2 ⟨hh.1, by omega⟩; simp at hh)]
theorem told_all {s : Nat → Lk} {n : Nat} (h : ∀ i, i < 70 → 0 ≤ (s i).h ∧ (s i).h ≤ n) (i : Nat) (hi : i < 70) : toldF s n 0 i = (s i).h := by
  unfold toldF
  have := h i hi
  by_cases h0 : (s i).h = 0
  · rw [if_neg (fun hh => by rcases hh with hh | hh; omega; simp at hh), h0]
  · rw [if_pos (.inl ⟨by omega, this.2⟩)]
theorem below_succ {p : Nat → Prop} {x : Nat} : (∃ y, y < x + 1 ∧ p y) ↔ ((∃ y, y < x ∧ p y) ∨ p x) :=
  ⟨fun ⟨y, hy, hp⟩ => by
    by_cases e : y = x
    · subst e; exact .inr hp
    · exact .inl ⟨y, by omega, hp⟩, fun h => h.elim (fun ⟨y, hy, hp⟩ => ⟨y, by omega, hp⟩) (fun hp => ⟨x, by omega, hp⟩)⟩

/-- What has been told of the workers below x. -/
def Flags (s : Nat → Lk) (x : Nat) (fs fg : Bool) : Prop := (fs = true ↔ ∃ y, y < x ∧ (waitsAt s (y : Nat) 70).isSome = true) ∧ (fg = true ↔ ∃ y, y < x ∧ ((waitsAt s (y : Nat) 70).isSome = false ∧ heldL s (y : Nat) 70 ≠ []))
theorem flags_start (s : Nat → Lk) : Flags s 0 false false := ⟨⟨fun h => (by cases h), fun ⟨y, hy, _⟩ => by omega⟩, ⟨fun h => (by cases h), fun ⟨y, hy, _⟩ => by omega⟩⟩
theorem flags_next {s : Nat → Lk} {x : Nat} {fs fg : Bool} (h : Flags s x fs fg) : Flags s (x + 1) (fs || (waitsAt s (x : Nat) 70).isSome) (fg || (!(waitsAt s (x : Nat) 70).isSome && decide (0 < (heldL s (x : Nat) 70).length))) := by
  refine ⟨?_, ?_⟩
  · rw [below_succ (p := fun y => (waitsAt s (y : Nat) 70).isSome = true), ← h.1, Bool.or_eq_true]
  · rw [below_succ (p := fun y => (waitsAt s (y : Nat) 70).isSome = false ∧ heldL s (y : Nat) 70 ≠ []), ← h.2, Bool.or_eq_true, Bool.and_eq_true, decide_eq_true_eq, List.length_pos_iff]
    simp
theorem OwnI.far {w w' : World} {zs : List Int} {e : Ending} (h : OwnI w zs e w') : ∃ a c, e = .returned (.slice a zs.length c) ∧ (∀ p, a = some p → w.heap.size ≤ p.block) ∧ Ints w'.heap.size .i64 w' a zs ∧ Nw w w' ∧ zs.length ≤ c := by
  obtain ⟨v, rfl, ho, hn⟩ := h
  obtain ⟨a, c, rfl, _, hI⟩ := Ints.of_owns ho
  refine ⟨a, c, rfl, fun p hp => ?_, hI, hn, own_cap ho⟩
  subst hp
  exact (ho.lt p.block rfl).1
theorem Nw.up {w0 a b : World} {t : Nat} (h : Nw w0 a) (k : Up t a b) (ht : w0.heap.size ≤ t) : Nw w0 b := ⟨Up.below h.b k h.b.size ht⟩
set_option maxRecDepth 100000 in
set_option maxHeartbeats 8000000 in
theorem sound_any (t : Nat) (n : Nat) (hn1 : n ≤ 4) (s : Nat → Lk) (a : Nat → Option Addr) (c : Nat → Nat) (hl : ∀ i, i < 70 → (s i).q.length ≤ 1000000) (hs : SoundP s n) (w : World) (h : TAt w t n s a c) :
    Calls Try.prog 10 #[.pointer (some ⟨t, 0, none⟩), .int .i64 n] w fun e w' => e = .returned (.bool true) ∧ Nw w w' := by
  have HL := Lib.hid hl
  have HS := Lib.hid hs
  have HT := Lib.hid h
  clear hl hs h
  go_enter Try.func10, Try.ntmps10
  have hz : (zeroValue 58).run Try.prog w = .ok (.agg z70) w := by kernel_rfl
  go_wp2_with fail
  clear hz
  have HN1 := Lib.hid ((Nw.refl (w := w)).alloc (.cells z70 58))
  have HT1 := Lib.hid (HT.out.nw HN1.out)
  have HA1 := Lib.hid (arr_new w 58)
  obtain ⟨g, hg⟩ : ∃ g, w.heap.size = g := ⟨_, rfl⟩
  generalize w.alloc (.cells z70 58) = W1 at *
  rw [hg] at HA1 ⊢
  have HG := Lib.hid hg
  clear hg
  go_loopw [8, 5, 6] (fun i vs vg wr => ∃ (x : Nat) (fs fg : Bool), x ≤ n ∧ i = .int .i64 x ∧ vs = .bool fs ∧ vg = .bool fg ∧ Flags s x fs fg ∧ Nw w wr ∧ Arr wr g (toldF s x 0)) (fun i _ _ _ => n - (intOf i).toNat)
  case atStart => exact ⟨0, false, false, Nat.zero_le _, rfl, rfl, rfl, flags_start s, HN1.out, HA1.out.congr (fun m hm => by unfold toldF; rw [if_neg]; rintro (hh | hh); omega; simp at hh)⟩
  case round =>
    clear HN1 HT1 HA1
    obtain ⟨x, fs, fg, hx, rfl, rfl, rfl, hfl, hn, ha⟩ := hrel
    have HF := Lib.hid hfl
    have HN := Lib.hid hn
    have HA := Lib.hid ha
    clear hfl hn ha
    by_cases hlt : x < n
    · have HW := Lib.hid (waits_any t n s a c HL.out x wr (HT.out.nw HN.out))
      have HFN := Lib.hid (flags_next HF.out)
      have HLEN := Lib.hid (heldL_length s x 70)
      obtain ⟨o, ho⟩ : ∃ o, waitsAt s x 70 = o := ⟨_, rfl⟩
      have HO := Lib.hid ho
      rw [ho] at HW HFN
      clear ho
      unfold WaitsP at HW
      obtain ⟨os, hos⟩ : ∃ os, o.isSome = os := ⟨_, rfl⟩
      rw [hos] at HW HFN
      have HOS := Lib.hid hos
      clear hos
      go_wp2_with fail
      refine HW.out.mono ?_
      rintro e w2 ⟨rfl, hn⟩
      have HN2 := Lib.hid (HN.out.trans hn)
      have HA2 := Lib.hid (HA.out.nw hn)
      clear hn
      go_wp2_with fail
      refine (held_any t n s a c x (by omega) (by omega) w2 (HT.out.nw HN2.out)).mono ?_
      intro e w3 hh
      obtain ⟨ah, ch, rfl, hfar, hIh, hn, _⟩ := hh.far
      have hgw2 : g < w2.heap.size := HA2.out.lt
      have HN3 := Lib.hid (HN2.out.trans hn)
      have HA3 := Lib.hid (HA2.out.nw hn)
      have HI3 := Lib.hid hIh
      clear hh hIh hn
      obtain ⟨len, hlen⟩ : ∃ len, (heldL s x 70).length = len := ⟨_, rfl⟩
      have HLN := Lib.hid hlen
      rw [hlen] at HFN HLEN ⊢
      clear hlen
      have hl70 := HLEN.out
      go_upto_region 9 with fail
      go_cut [5] (fun v wx => v = .bool (fs || os) ∧ wx = w3)
      case first =>
        cases fs
        all_goals (go_wp2_with fail; go_meet; exact ⟨rfl, rfl⟩)
      case rest =>
        obtain ⟨rfl, rfl⟩ := hcut
        generalize (fs || os) = fs2 at *
        go_upto_region 10 with fail
        go_cut [6] (fun v wx => v = .bool (fg || (!os && decide (0 < len))) ∧ wx = wc)
        case first =>
          cases fg
          · cases os
            · by_cases h0 : 0 < len
              · have h0' : (0 : Int) < (len : Int) := by omega
                go_wp2_with fail; go_meet; exact ⟨by simp [h0], rfl⟩
              · have h0' : ¬ (0 : Int) < (len : Int) := by omega
                go_wp2_with fail; go_meet; exact ⟨by simp [h0], rfl⟩
            · go_wp2_with fail; go_meet; exact ⟨by simp, rfl⟩
          · go_wp2_with fail; go_meet; exact ⟨by simp, rfl⟩
        case rest =>
          obtain ⟨rfl, rfl⟩ := hcut
          generalize (fg || (!os && decide (0 < len))) = fg2 at *
          have HSP := Lib.hid (fun i (h : o = some i) => HS.out.w x hlt i (HO.out.trans h))
          have htold0 := HA3.out
          cases os
          · obtain rfl : o = none := by have := HOS.out; cases o; rfl; cases this
            rw [show (((none : Option Nat).getD 0 : Nat) : Int) = 0 from rfl]
            go_wp2_with fail
            go_loopw [12] (fun i wq => ∃ k : Nat, k ≤ len ∧ i = .int .i64 k ∧ Up g wc wq ∧ Arr wq g (toldF s x k)) (fun i _ => len - (intOf i).toNat)
            case atStart => exact ⟨0, Nat.zero_le _, rfl, .refl _ _, HA3.out⟩
            case round =>
              clear htold0
              obtain ⟨k, hk, rfl, hu, ha⟩ := hrel
              have HU := Lib.hid hu
              have HA := Lib.hid ha
              clear hu ha
              by_cases hkl : k < len
              · obtain ⟨m, hm, hm70, hmh⟩ := heldL_get (s := s) (x := x) (k := k) (by rw [HLN.out]; exact hkl)
                obtain ⟨b, off, rfl, _, he⟩ := HI3.out.at (j := k) (by rw [HLN.out]; exact hkl)
                have hbg : b ≠ g := by have := hfar ⟨b, off, none⟩ rfl; dsimp only at this; omega
                have hfr := told_fresh (by rw [HLN.out]; exact hkl) hm hmh
                have HTN := Lib.hid (told_next (by rw [HLN.out]; exact hkl) hm hmh)
                have ca := HA.out.c m hm70
                have fa := HA.out.f m
                rw [hfr] at ca
                rw [hm] at he
                replace he := HU.out.cell he hbg
                have HMH := Lib.hid hmh
                have hm1 : ¬ (m : Int) < 0 := by omega
                have hm2 : ¬ 70 ≤ (m : Int) := by omega
                have hm0 : (0 : Int) ≤ (m : Int) := by omega
                have hm3 : (m : Int) < 70 := by omega
                have HMM := Lib.hid hm
                clear hm hmh hfr
                obtain rfl | ⟨j, rfl⟩ : k = 0 ∨ ∃ j, k = j + 1 := by cases k; exact .inl rfl; exact .inr ⟨_, rfl⟩
                · have hk0 : (0 : Int) < (len : Int) := by omega
                  simp only [Nat.add_zero] at he
                  go_wp2_with fail
                  have hm1 : decide ((m : Int) < 0) = false := decide_eq_false (by omega)
                  have hm2 : decide (70 ≤ (m : Int)) = false := decide_eq_false (by omega)
                  go_quiet (fail)
                  go_wp2_with fail
                  go_roundw
                  case rel => exact ⟨1, by omega, by go_num, (HU.out.nw (Nw.refl.drewN nq)).set _ _, (((HA.out.nw (Nw.refl.drewN nq)).set m ((x : Int) + 1)).congr fun i _ => HTN.out i)⟩
                  case measure => simp [intOf]; omega
                · obtain ⟨b', off', he', _, hp⟩ := HI3.out.at (j := j) (by rw [HLN.out]; omega)
                  cases he'
                  obtain ⟨m', hm', _, _⟩ := heldL_get (s := s) (x := x) (k := j) (by rw [HLN.out]; omega)
                  have hlt' := heldL_lt (s := s) (x := x) (j := j) (k := j + 1) (by omega) (by rw [HLN.out]; exact hkl)
                  rw [hm'] at hp
                  rw [hm', HMM.out] at hlt'
                  replace hp := HU.out.cell hp hbg
                  have hp0 : (m' : Int) < (m : Int) := by omega
                  clear hm' hlt'
                  have hk2 : (0 : Int) ≤ (j : Int) := by omega
                  have hk3 : (j : Int) < (len : Int) := by omega
                  have hk4 : (j : Int) + 1 < (len : Int) := by omega
                  have hk5 : ((j : Int) + 1).toNat = j + 1 := by omega
                  have hk7 : (0 : Int) ≤ (j : Int) + 1 := by omega
                  go_wp2_with fail
                  have hm1 : decide ((m : Int) < 0) = false := decide_eq_false (by omega)
                  have hm2 : decide (70 ≤ (m : Int)) = false := decide_eq_false (by omega)
                  have hk1 : decide ((0 : Int) < (j : Int) + 1) = true := decide_eq_true (by omega)
                  have hk6 : IntKind.i64.wrap ((j : Int) + 1 - 1) = (j : Int) := by rw [show (j : Int) + 1 - 1 = (j : Int) by omega]; exact IntWalk.i64_in _ (by omega)
                  have hk8 : IntKind.i64.wrap (j : Int) = (j : Int) := IntWalk.i64_in _ (by omega)
                  have hp1 : decide ((m : Int) ≤ (m' : Int)) = false := decide_eq_false (by omega)
                  have hp2 : decide (m ≤ m') = false := decide_eq_false (by omega)
                  go_quiet (fail)
                  go_wp2_with fail
                  go_roundw
                  case rel => exact ⟨j + 1 + 1, by omega, by go_num, (HU.out.nw (Nw.refl.drewN nq)).set _ _, (((HA.out.nw (Nw.refl.drewN nq)).set m ((x : Int) + 1)).congr fun i _ => HTN.out i)⟩
                  case measure => simp [intOf]; omega
              · obtain rfl : k = len := by omega
                have HTW := Lib.hid (fun i hi => (by rw [← HLN.out]; exact told_worker i hi : toldF s x k i = toldF s (x + 1) 0 i))
                go_wp2_with fail
                go_roundw
                case rel => exact ⟨x + 1, fs2, fg2, by omega, by go_num, rfl, rfl, HFN.out, HN3.out.up HU.out (by rw [HG.out]; exact Nat.le_refl _), HA.out.congr fun i hi => HTW.out i hi⟩
                case measure => simp [intOf]; omega
          · obtain ⟨i, rfl⟩ : ∃ i, o = some i := by have := HOS.out; cases o; cases this; exact ⟨_, rfl⟩
            obtain ⟨hi70, hi0, hi1, hib⟩ := HSP.out i rfl
            have HIB := Lib.hid hib
            clear hib hi0 hi1
            have hg1 : ¬ ((i : Int) < 0) := by omega
            have hg2 : ¬ (70 ≤ (i : Int)) := by omega
            go_wp2_with fail
            go_loopw [12] (fun i wq => ∃ k : Nat, k ≤ len ∧ i = .int .i64 k ∧ Up g wc wq ∧ Arr wq g (toldF s x k)) (fun i _ => len - (intOf i).toNat)
            case atStart => exact ⟨0, Nat.zero_le _, rfl, .refl _ _, HA3.out⟩
            case round =>
              clear htold0
              obtain ⟨k, hk, rfl, hu, ha⟩ := hrel
              have HU := Lib.hid hu
              have HA := Lib.hid ha
              clear hu ha
              by_cases hkl : k < len
              · obtain ⟨m, hm, hm70, hmh⟩ := heldL_get (s := s) (x := x) (k := k) (by rw [HLN.out]; exact hkl)
                obtain ⟨b, off, rfl, _, he⟩ := HI3.out.at (j := k) (by rw [HLN.out]; exact hkl)
                have hbg : b ≠ g := by have := hfar ⟨b, off, none⟩ rfl; dsimp only at this; omega
                have hfr := told_fresh (by rw [HLN.out]; exact hkl) hm hmh
                have HTN := Lib.hid (told_next (by rw [HLN.out]; exact hkl) hm hmh)
                have ca := HA.out.c m hm70
                have fa := HA.out.f m
                rw [hfr] at ca
                rw [hm] at he
                replace he := HU.out.cell he hbg
                have HMH := Lib.hid hmh
                have hm1 : ¬ (m : Int) < 0 := by omega
                have hm2 : ¬ 70 ≤ (m : Int) := by omega
                have hm0 : (0 : Int) ≤ (m : Int) := by omega
                have hm3 : (m : Int) < 70 := by omega
                have hmi0 : (m : Int) < (i : Int) := by have := HIB.out m hm70 hmh; omega
                have HMM := Lib.hid hm
                clear hm hmh hfr
                obtain rfl | ⟨j, rfl⟩ : k = 0 ∨ ∃ j, k = j + 1 := by cases k; exact .inl rfl; exact .inr ⟨_, rfl⟩
                · have hk0 : (0 : Int) < (len : Int) := by omega
                  simp only [Nat.add_zero] at he
                  go_wp2_with fail
                  have hm1 : decide ((m : Int) < 0) = false := decide_eq_false (by omega)
                  have hm2 : decide (70 ≤ (m : Int)) = false := decide_eq_false (by omega)
                  have hmi : decide ((i : Int) ≤ (m : Int)) = false := decide_eq_false (by omega)
                  have hmi2 : decide (i ≤ m) = false := decide_eq_false (by omega)
                  go_quiet (fail)
                  go_wp2_with fail
                  go_roundw
                  case rel => exact ⟨1, by omega, by go_num, (HU.out.nw (Nw.refl.drewN nq)).set _ _, (((HA.out.nw (Nw.refl.drewN nq)).set m ((x : Int) + 1)).congr fun i _ => HTN.out i)⟩
                  case measure => simp [intOf]; omega
                · obtain ⟨b', off', he', _, hp⟩ := HI3.out.at (j := j) (by rw [HLN.out]; omega)
                  cases he'
                  obtain ⟨m', hm', _, _⟩ := heldL_get (s := s) (x := x) (k := j) (by rw [HLN.out]; omega)
                  have hlt' := heldL_lt (s := s) (x := x) (j := j) (k := j + 1) (by omega) (by rw [HLN.out]; exact hkl)
                  rw [hm'] at hp
                  rw [hm', HMM.out] at hlt'
                  replace hp := HU.out.cell hp hbg
                  have hp0 : (m' : Int) < (m : Int) := by omega
                  clear hm' hlt'
                  have hk2 : (0 : Int) ≤ (j : Int) := by omega
                  have hk3 : (j : Int) < (len : Int) := by omega
                  have hk4 : (j : Int) + 1 < (len : Int) := by omega
                  have hk5 : ((j : Int) + 1).toNat = j + 1 := by omega
                  have hk7 : (0 : Int) ≤ (j : Int) + 1 := by omega
                  go_wp2_with fail
                  have hm1 : decide ((m : Int) < 0) = false := decide_eq_false (by omega)
                  have hm2 : decide (70 ≤ (m : Int)) = false := decide_eq_false (by omega)
                  have hk1 : decide ((0 : Int) < (j : Int) + 1) = true := decide_eq_true (by omega)
                  have hk6 : IntKind.i64.wrap ((j : Int) + 1 - 1) = (j : Int) := by rw [show (j : Int) + 1 - 1 = (j : Int) by omega]; exact IntWalk.i64_in _ (by omega)
                  have hk8 : IntKind.i64.wrap (j : Int) = (j : Int) := IntWalk.i64_in _ (by omega)
                  have hp1 : decide ((m : Int) ≤ (m' : Int)) = false := decide_eq_false (by omega)
                  have hp2 : decide (m ≤ m') = false := decide_eq_false (by omega)
                  have hmi : decide ((i : Int) ≤ (m : Int)) = false := decide_eq_false (by omega)
                  have hmi2 : decide (i ≤ m) = false := decide_eq_false (by omega)
                  go_quiet (fail)
                  go_wp2_with fail
                  go_roundw
                  case rel => exact ⟨j + 1 + 1, by omega, by go_num, (HU.out.nw (Nw.refl.drewN nq)).set _ _, (((HA.out.nw (Nw.refl.drewN nq)).set m ((x : Int) + 1)).congr fun i _ => HTN.out i)⟩
                  case measure => simp [intOf]; omega
              · obtain rfl : k = len := by omega
                have HTW := Lib.hid (fun i hi => (by rw [← HLN.out]; exact told_worker i hi : toldF s x k i = toldF s (x + 1) 0 i))
                go_wp2_with fail
                go_roundw
                case rel => exact ⟨x + 1, fs2, fg2, by omega, by go_num, rfl, rfl, HFN.out, HN3.out.up HU.out (by rw [HG.out]; exact Nat.le_refl _), HA.out.congr fun i hi => HTW.out i hi⟩
                case measure => simp [intOf]; omega
    · obtain rfl : x = n := by omega
      have HAA := Lib.hid (HA.out.congr fun i hi => told_all HS.out.h i hi)
      have HN4 := Lib.hid HN.out
      go_wp2_with fail
      go_loopw [13] (fun i wq => ∃ y : Nat, y ≤ x ∧ i = .int .i64 y ∧ Nw w wq ∧ Arr wq g (fun i => (s i).h)) (fun i _ => x - (intOf i).toNat)
      case atStart => exact ⟨0, Nat.zero_le _, rfl, HN4.out, HAA.out⟩
      case round =>
        clear HN HA
        obtain ⟨y, hy, rfl, hn, ha⟩ := hrel
        have HN := Lib.hid hn
        have HA := Lib.hid ha
        clear hn ha
        by_cases hyl : y < x
        · have HW := Lib.hid (waits_any t x s a c HL.out y wr (HT.out.nw HN.out))
          have HSP := Lib.hid (fun i (h : waitsAt s y 70 = some i) => HS.out.w y hyl i h)
          go_wp2_with fail
          cases hw : waitsAt s y 70 with
          | none =>
            rw [hw] at HW
            clear hw
            refine HW.out.mono ?_
            rintro e w2 ⟨rfl, hn⟩
            have HN2 := Lib.hid (HN.out.trans hn)
            have HA2 := Lib.hid (HA.out.nw hn)
            clear hn
            go_wp2_with fail
            go_roundw
            case rel => exact ⟨y + 1, by omega, by go_num, HN2.out, HA2.out⟩
            case measure => simp [intOf]; omega
          | some i =>
            obtain ⟨hi70, hi0, hi1, hib⟩ := HSP.out i hw
            have HIB := Lib.hid hib
            have hb0 : ((s i).h == 0) = false := by rw [beq_eq_false_iff_ne]; exact hi0
            have hb1 : ((s i).h == (y : Int) + 1) = false := by rw [beq_eq_false_iff_ne]; exact hi1
            rw [hw] at HW
            clear hw hib hi0 hi1
            refine HW.out.mono ?_
            rintro e w2 ⟨rfl, hn⟩
            have HN2 := Lib.hid (HN.out.trans hn)
            have HA2 := Lib.hid (HA.out.nw hn)
            have ca := HA2.out.c i hi70
            have hi2 : (0 : Int) ≤ (i : Int) := by omega
            have hi3 : (i : Int) < 70 := by omega
            clear hn
            rw [show ((some i).getD 0) = i from rfl]
            go_wp2_with fail
            go_roundw
            case rel => exact ⟨y + 1, by omega, by go_num, HN2.out, HA2.out⟩
            case measure => simp [intOf]; omega
        · obtain rfl : y = x := by omega
          have HFL := Lib.hid (show fs = true → fg = true from fun h => HF.out.2.2 (HS.out.g (HF.out.1.1 h)))
          cases fs
          · go_wp2_with fail
            go_ret
            exact ⟨rfl, HN.out⟩
          · obtain rfl : fg = true := HFL.out rfl
            go_wp2_with fail
            go_ret
            exact ⟨rfl, HN.out⟩

end Go.Proofs.Ytdjncbfoecoedaa
