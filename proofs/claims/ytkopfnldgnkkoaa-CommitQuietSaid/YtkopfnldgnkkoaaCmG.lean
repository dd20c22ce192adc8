/-
  RUNS: what a step does; Step, Left, Phase.
-/
import Derived.Deep.RegionHeld3
import Derived.Test.YtkopfnldgnkkoaaCmA
namespace Go.Proofs.Ytkopfnldgnkkoaa
open Go.RowKit Go.Shelf
set_option linter.unusedVariables false

def doOp : Op9 → (Nat → Wd) → (Nat → Wd)
  | .store x v, f => upd f x.toNat (storeW (f x.toNat) v)
  | .flush l, f => flushU l.toNat f
  | .fence, f => fenceU f
def okOp (N : Nat) : Op9 → Prop
  | .store x _ => 0 ≤ x ∧ x < N
  | .flush l => 0 ≤ l ∧ l * 8 < N
  | .fence => True
set_option maxHeartbeats 2000000 in
theorem stores1_any (r d b N br bw : Nat) (f : Nat → Wd) (k : Nat) (hk : k < N) (v : Int) (w : World) (h : DevAt w d b N f) (hr : Blk w br #[.pointer (some ⟨r, 0, none⟩)] 32) (hw : Blk w bw #[.int .i64 (k : Int), .int .u64 v] 41)
    (hR : Tag w r 79) (hd : w.cell? ⟨r, 0, none⟩ = some (.pointer (some ⟨d, 0, none⟩))) :
    Calls Try.prog 87 #[.pointer (some ⟨br, 0, none⟩), .pointer (some ⟨bw, 0, none⟩)] w (DevG w d b N (upd f k (storeW (f k) v))) := by
  have hc := hr.cell (j := 0) rfl
  have hw0 := hw.cell (j := 0) rfl
  have hw1 := hw.cell (j := 1) rfl
  simp only [List.getElem_toArray, List.getElem_cons_zero, List.getElem_cons_succ] at hc hw0 hw1
  have HS := Lib.hid (store_any d b N f k hk v w.drew (h.nw Nw.refl.drew))
  have HK : Hid (∀ W', Up b w.drew W' → W'.cell? ⟨br, 0, none⟩ = some (.pointer (some ⟨r, 0, none⟩)) ∧ W'.cell? ⟨r, 0, none⟩ = some (.pointer (some ⟨d, 0, none⟩)) ∧ W'.cell? ⟨bw, 0, none⟩ = some (.int .i64 (k : Int)) ∧ W'.cell? ⟨bw, 1, none⟩ = some (.int .u64 v)) := by
    intro W' u
    have n1 := hr.tag.ne h.a.ty (by decide)
    have n2 := hR.ne h.a.ty (by decide)
    have n3 := hw.tag.ne h.a.ty (by decide)
    exact ⟨u.cell hc n1, u.cell hd n2, u.cell hw0 n3, u.cell hw1 n3⟩
  clear h hr hw hR
  go_enter Try.func87, Try.ntmps87
  go_wp2_with fail
  go_region_held3 (fun w' => w'.cell? ⟨br, 0, none⟩ = some (.pointer (some ⟨r, 0, none⟩)) ∧ w'.cell? ⟨r, 0, none⟩ = some (.pointer (some ⟨d, 0, none⟩)) ∧ w'.cell? ⟨bw, 0, none⟩ = some (.int .i64 (k : Int)) ∧ w'.cell? ⟨bw, 1, none⟩ = some (.int .u64 v))
    (first | (exact ⟨hc, hd, hw0, hw1⟩) | (exact hk9))
    ((first | (go_at_call 32; refine HS.out.mono ?_; rintro e w2 ⟨rfl, h2, u2⟩; have hk9 := HK.out _ u2)))
  go_wp2_with fail
  go_ret
  exact ⟨rfl, h2, (Up.of_nw (t := b) Nw.refl.drew).trans u2⟩

set_option maxHeartbeats 2000000 in
theorem settles1_any (r d b N br bl : Nat) (f : Nat → Wd) (k : Nat) (hk : k * 8 < N) (w : World) (h : DevAt w d b N f) (hr : Blk w br #[.pointer (some ⟨r, 0, none⟩)] 32) (hw : Blk w bl #[.int .i64 (k : Int)] 3)
    (hR : Tag w r 79) (hd : w.cell? ⟨r, 0, none⟩ = some (.pointer (some ⟨d, 0, none⟩))) :
    Calls Try.prog 90 #[.pointer (some ⟨br, 0, none⟩), .pointer (some ⟨bl, 0, none⟩)] w (DevG w d b N (flushU k f)) := by
  have hc := hr.cell (j := 0) rfl
  have hw0 := hw.cell (j := 0) rfl
  simp only [List.getElem_toArray, List.getElem_cons_zero] at hc hw0
  have HS := Lib.hid (flush_any d b N f k hk w.drew (h.nw Nw.refl.drew))
  have HK : Hid (∀ W', Up b w.drew W' → W'.cell? ⟨br, 0, none⟩ = some (.pointer (some ⟨r, 0, none⟩)) ∧ W'.cell? ⟨r, 0, none⟩ = some (.pointer (some ⟨d, 0, none⟩)) ∧ W'.cell? ⟨bl, 0, none⟩ = some (.int .i64 (k : Int))) := by
    intro W' u
    have n1 := hr.tag.ne h.a.ty (by decide)
    have n2 := hR.ne h.a.ty (by decide)
    have n3 := hw.tag.ne h.a.ty (by decide)
    exact ⟨u.cell hc n1, u.cell hd n2, u.cell hw0 n3⟩
  clear h hr hw hR
  go_enter Try.func90, Try.ntmps90
  go_wp2_with fail
  go_region_held3 (fun w' => w'.cell? ⟨br, 0, none⟩ = some (.pointer (some ⟨r, 0, none⟩)) ∧ w'.cell? ⟨r, 0, none⟩ = some (.pointer (some ⟨d, 0, none⟩)) ∧ w'.cell? ⟨bl, 0, none⟩ = some (.int .i64 (k : Int)))
    (first | (exact ⟨hc, hd, hw0⟩) | (exact hk9))
    ((first | (go_at_call 91; refine HS.out.mono ?_; rintro e w2 ⟨rfl, h2, u2⟩; have hk9 := HK.out _ u2)))
  go_wp2_with fail
  go_ret
  exact ⟨rfl, h2, (Up.of_nw (t := b) Nw.refl.drew).trans u2⟩

set_option maxHeartbeats 1000000 in
theorem left_nil (w : World) : Calls Try.prog 14 #[.pointer none] w fun e w' => e = .returned (.int .i64 0) ∧ w = w' := by
  go_enter Try.func14, Try.ntmps14
  go_wp2_with fail
  go_ret
  exact ⟨rfl, rfl⟩
set_option maxHeartbeats 1000000 in
theorem left_any (r d : Nat) (g : G) (area : Int) (L : List St) (a : Option Addr) (hL : L.length ≤ 100000) (w : World) (h : RunAt w r d g area L a) :
    Calls Try.prog 14 #[.pointer (some ⟨r, 0, none⟩)] w fun e w' => e = .returned (.int .i64 (L.length : Nat)) ∧ w = w' := by
  obtain ⟨c, hk, _⟩ := h.k
  have hc5 : w.cell? ⟨r, 5, none⟩ = some (.slice a L.length c) := hk.cell rfl
  clear h hk
  generalize L.length = n at *
  go_enter Try.func14, Try.ntmps14
  go_wp2_with fail
  go_ret
  exact ⟨rfl, rfl⟩
def phaseOf : List St → Int
  | [] => 0
  | s :: _ => s.p
set_option maxHeartbeats 1000000 in
theorem phase_nil (w : World) : Calls Try.prog 16 #[.pointer none] w fun e w' => e = .returned (.int .u8 0) ∧ w = w' := by
  go_enter Try.func16, Try.ntmps16
  go_wp2_with fail
  refine (left_nil w).mono ?_
  rintro e w1 ⟨rfl, rfl⟩
  go_wp2_with fail
  go_ret
  exact ⟨rfl, rfl⟩
/-- The first step's cells. -/
theorem RunAt.first {w : World} {r d : Nat} {g : G} {area : Int} {s : St} {L : List St} {a : Option Addr} (h : RunAt w r d g area (s :: L) a) :
    ∃ qb qo c v vs, a = some ⟨qb, qo, none⟩ ∧ Blk w r #[.pointer (some ⟨d, 0, none⟩), .int .i64 g.w, .int .i64 g.i, .int .i64 g.b, .int .i64 area, .slice a (L.length + 1) c] 79 ∧ L.length + 1 ≤ c ∧ StepV w r d s.o v ∧ StepsV w r d L vs ∧
      Qs w 94 2 a c (.int .u8 s.p :: v :: stepC L vs) ∧ w.cell? ⟨qb, qo, none⟩ = some (.int .u8 s.p) ∧ w.cell? ⟨qb, qo + 1, none⟩ = some v := by
  obtain ⟨c, hk, vs, hs, hq⟩ := h.k
  match vs, hs with
  | [], hs => exact absurd hs.1 (by simp)
  | v :: vs, hs =>
    obtain ⟨hv, hs'⟩ := hs.tail
    have hlen := stepC_len L vs hs'.1
    have hq' : Qs w 94 2 a c (.int .u8 s.p :: v :: stepC L vs) := hq
    have hle := hq'.len
    rcases hq with ⟨_, h0, _⟩ | ⟨qb, qo, rfl, ht, h1, h2, h3, h4⟩
    · simp [stepC] at h0
    · simp only [List.length_cons, hlen] at hle
      refine ⟨qb, qo, c, v, vs, rfl, hk, by omega, hv, hs', hq', ?_, ?_⟩
      · exact h4 0 (by simp [stepC])
      · exact h4 1 (by simp [stepC])
set_option maxHeartbeats 1000000 in
theorem phase_any (r d : Nat) (g : G) (area : Int) (L : List St) (a : Option Addr) (hL : L.length ≤ 100000) (w : World) (h : RunAt w r d g area L a) :
    Calls Try.prog 16 #[.pointer (some ⟨r, 0, none⟩)] w fun e w' => e = .returned (.int .u8 (phaseOf L)) ∧ w = w' := by
  have HL := Lib.hid (left_any r d g area L a hL w h)
  cases L with
  | nil =>
    clear h
    go_enter Try.func16, Try.ntmps16
    go_wp2_with fail
    refine HL.out.mono ?_
    rintro e w1 ⟨rfl, rfl⟩
    go_wp2_with fail
    go_ret
    exact ⟨rfl, rfl⟩
  | cons s L =>
    obtain ⟨qb, qo, c, v, vs, rfl, hk, hle, _, _, _, p1, p2⟩ := h.first
    have hc5 : w.cell? ⟨r, 5, none⟩ = some (.slice (some ⟨qb, qo, none⟩) (L.length + 1) c) := hk.cell rfl
    rw [List.length_cons] at HL hL
    clear h hk
    generalize L.length = n at *
    obtain ⟨sp, hsp⟩ : ∃ sp, s.p = sp := ⟨_, rfl⟩
    have HSP : Hid (phaseOf (s :: L) = sp) := hsp
    rw [hsp] at p1
    clear hsp
    go_enter Try.func16, Try.ntmps16
    go_wp2_with fail
    refine HL.out.mono ?_
    rintro e w1 ⟨rfl, rfl⟩
    go_wp2_with fail
    go_ret
    exact ⟨by rw [HSP.out]; rfl, rfl⟩

end Go.Proofs.Ytkopfnldgnkkoaa
