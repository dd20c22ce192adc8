/-
  THE TAPE: next (three instances), New, Byte, Number, Torn, End.
-/
import Derived.Test.YtphcdndohdnolaaOctD
import Derived.Laws.BytesArg
namespace Go.Proofs.Ytphcdndohdnolaa
open Go.RowKit Go.Shelf

/-- Only new memory, and block t. -/
structure Up (t : Nat) (w w' : World) : Prop where
  os : w'.os = w.os
  tape : w'.tape = w.tape
  output : w'.output = w.output
  size : w.heap.size ≤ w'.heap.size
  block : ∀ k, k < w.heap.size → k ≠ t → w'.heap[k]? = w.heap[k]?
theorem Up.refl (t : Nat) (w : World) : Up t w w := ⟨rfl, rfl, rfl, Nat.le_refl _, fun _ _ _ => rfl⟩
theorem Up.trans {t : Nat} {a b c : World} (h : Up t a b) (k : Up t b c) : Up t a c :=
  ⟨k.os.trans h.os, k.tape.trans h.tape, k.output.trans h.output, Nat.le_trans h.size k.size, fun i hi hn => (k.block i (Nat.lt_of_lt_of_le hi h.size) hn).trans (h.block i hi hn)⟩
theorem Up.of_nw {t : Nat} {a b : World} (h : Nw a b) : Up t a b := ⟨h.b.os, h.b.tape, h.b.output, h.b.size, fun k hk _ => h.b.block k hk⟩
theorem Up.nw {t : Nat} {a b c : World} (h : Up t a b) (k : Nw b c) : Up t a c := h.trans (.of_nw k)
theorem Up.set {t : Nat} {a b : World} (h : Up t a b) (j : Nat) (v : Value) : Up t a (b.setCell ⟨t, j, none⟩ v) :=
  h.trans ⟨rfl, rfl, rfl, by simp [World.setCell], fun k _ hn => Below.heap_setCell b ⟨t, j, none⟩ v k hn⟩
theorem Up.alloc {t : Nat} {a b : World} (h : Up t a b) (o : Obj) : Up t a (b.alloc o) := h.nw (Nw.refl.alloc o)
theorem Up.cell {t : Nat} {a b : World} (h : Up t a b) {p : Addr} {v : Value} (hc : a.cell? p = some v) (hn : p.block ≠ t) : b.cell? p = some v :=
  (World.cell?_of_block (w := a) (h.block p.block (cell_lt hc).1 hn)).trans hc
theorem Up.frozen {t : Nat} {a b : World} (h : Up t a b) {p : Addr} (hl : p.block < a.heap.size) (hn : p.block ≠ t) : b.frozen? p = a.frozen? p :=
  World.frozen?_of_block (w := a) (h.block p.block hl hn)
theorem Up.below {t B : Nat} {w0 a b : World} (k : Below B w0 a) (h : Up t a b) (hB : B ≤ a.heap.size) (ht : B ≤ t) : Below B w0 b :=
  k.trans ⟨h.os, h.tape, h.output, h.size, fun i hi => h.block i (by omega) (by omega)⟩
theorem Up.ints {t n₀ : Nat} {a b : World} (h : Up t a b) (hn : n₀ ≤ t) (hs : n₀ ≤ a.heap.size) {k : IntKind} {x : Option Addr} {zs : List Int} (hI : Ints n₀ k a x zs) : Ints n₀ k b x zs :=
  hI.below ⟨h.os, h.tape, h.output, h.size, fun i hi => h.block i (by omega) (by omega)⟩

/-- A tape lies at t: the bytes that are left, is it torn? -/
structure TapeAt (w : World) (t : Nat) (zs : List Int) (torn : Bool) (m : Nat := t) : Prop where
  s : ∃ a cap, w.cell? ⟨t, 0, none⟩ = some (.slice a zs.length cap) ∧ zs.length ≤ cap ∧ Ints m .u8 w a zs
  c1 : w.cell? ⟨t, 1, none⟩ = some (.bool torn)
  f0 : w.frozen? ⟨t, 0, none⟩ = false
  f1 : w.frozen? ⟨t, 1, none⟩ = false
  by_ : ∀ x ∈ zs, isByte x
  le : zs.length ≤ 140737488355000
theorem TapeAt.lt {w : World} {t m : Nat} {zs : List Int} {torn : Bool} (h : TapeAt w t zs torn m) : t < w.heap.size := (cell_lt h.c1).1
theorem TapeAt.up {w w' : World} {t u : Nat} {zs : List Int} {torn : Bool} (h : TapeAt w t zs torn) (k : Up u w w') (hu : t < u) : TapeAt w' t zs torn := by
  obtain ⟨a, cap, s1, s2, s3⟩ := h.s
  have hl := h.lt
  exact ⟨⟨a, cap, k.cell s1 (Nat.ne_of_lt hu), s2, k.ints (Nat.le_of_lt hu) (Nat.le_of_lt hl) s3⟩, k.cell h.c1 (Nat.ne_of_lt hu), (k.frozen (p := ⟨t, 0, none⟩) hl (Nat.ne_of_lt hu)).trans h.f0, (k.frozen (p := ⟨t, 1, none⟩) hl (Nat.ne_of_lt hu)).trans h.f1, h.by_, h.le⟩
theorem TapeAt.nw {w w' : World} {t : Nat} {zs : List Int} {torn : Bool} (h : TapeAt w t zs torn) (k : Nw w w') : TapeAt w' t zs torn := h.up (u := w.heap.size) (.of_nw k) h.lt

theorem TapeAt.upM {w w' : World} {t u m : Nat} {zs : List Int} {torn : Bool} (h : TapeAt w t zs torn m) (k : Up u w w') (hu : t ≠ u) (hm : m ≤ u) (hml : m ≤ w.heap.size) : TapeAt w' t zs torn m := by
  obtain ⟨a, cap, s1, s2, s3⟩ := h.s
  have hl := h.lt
  exact ⟨⟨a, cap, k.cell s1 hu, s2, k.ints hm hml s3⟩, k.cell h.c1 hu, (k.frozen (p := ⟨t, 0, none⟩) hl hu).trans h.f0, (k.frozen (p := ⟨t, 1, none⟩) hl hu).trans h.f1, h.by_, h.le⟩
theorem TapeAt.mono {w : World} {t m m' : Nat} {zs : List Int} {torn : Bool} (h : TapeAt w t zs torn m) (hm : m ≤ m') : TapeAt w t zs torn m' := by
  obtain ⟨a, cap, s1, s2, s3⟩ := h.s
  exact ⟨⟨a, cap, s1, s2, s3.mono hm⟩, h.c1, h.f0, h.f1, h.by_, h.le⟩

def stepT (zs : List Int) (torn : Bool) (size : Nat) : List Int × Bool := if torn then (zs, true) else if size = 0 then (zs, true) else (zs.drop size, false)
/-- What a call of next tells. -/
def NextP (Z V : Value) (t : Nat) (zs : List Int) (torn : Bool) (size : Nat) (w : World) (e : Ending) (w' : World) : Prop :=
  e = .returned (if torn then Z else if size = 0 then Z else V) ∧ TapeAt w' t (stepT zs torn size).1 (stepT zs torn size).2 ∧ Up t w w'
/-- The bytes that are left stay in their block. -/
def LoK (t : Nat) (w w' : World) : Prop := ∀ L : Nat, (∀ a n c, w.cell? ⟨t, 0, none⟩ = some (.slice a n c) → ∀ p, a = some p → L ≤ p.block) → ∀ a n c, w'.cell? ⟨t, 0, none⟩ = some (.slice a n c) → ∀ p, a = some p → L ≤ p.block
theorem LoK.refl (t : Nat) (w : World) : LoK t w w := fun _ h => h
theorem LoK.trans {t : Nat} {a b c : World} (h : LoK t a b) (k : LoK t b c) : LoK t a c := fun L hL => k L (h L hL)
theorem LoK.mk {t : Nat} {w w' : World} {a a' : Option Addr} {n n' c c' : Nat} (h : w.cell? ⟨t, 0, none⟩ = some (.slice a n c)) (h' : w'.cell? ⟨t, 0, none⟩ = some (.slice a' n' c')) (hb : ∀ p, a' = some p → ∃ q, a = some q ∧ q.block = p.block) : LoK t w w' := by
  intro L hL x m d hx p hp
  rw [h'] at hx
  simp only [Option.some.injEq, Value.slice.injEq] at hx
  obtain ⟨rfl, rfl, rfl⟩ := hx
  obtain ⟨q, hq, e⟩ := hb p hp
  rw [← e]; exact hL _ _ _ h q hq
theorem LoK.nw {t : Nat} {a b : World} (h : Nw a b) (ht : t < a.heap.size) : LoK t a b := by
  intro L hL x m d hx p hp
  have : b.cell? ⟨t, 0, none⟩ = a.cell? ⟨t, 0, none⟩ := World.cell?_of_block (w := a) (h.b.block t ht)
  rw [this] at hx
  exact hL _ _ _ hx p hp
def NextQ (Z V : Value) (t : Nat) (zs : List Int) (torn : Bool) (size : Nat) (w : World) (e : Ending) (w' : World) : Prop := NextP Z V t zs torn size w e w' ∧ LoK t w w'


set_option maxRecDepth 100000 in
set_option maxHeartbeats 2000000 in
theorem next_u64_q (t : Nat) (zs : List Int) (torn : Bool) (V : Value) (size : Nat) (hsz : size ≤ zs.length)  (w : World) (h : TapeAt w t zs torn)
    (HR : torn = false → ∀ a cap, zs.length ≤ cap → Ints t .u8 w a zs → Calls Try.prog 56 #[.slice a zs.length cap] w fun e W' => e = .returned (.tuple #[V, .int .i64 (size : Int)]) ∧ Nw w W') :
    Calls Try.prog 55 #[.pointer (some ⟨t, 0, none⟩), .func (.func 56) #[] #[]] w (NextQ (.int .u64 0) V t zs torn size w) := by
  have hle := h.le
  have HT := Lib.hid h
  obtain ⟨⟨a, cap, s1, s2, s3⟩, c1, f0, f1, hby, _⟩ := h
  have HS1 := Lib.hid s1
  have HI := Lib.hid s3
  have HB := Lib.hid hby
  clear s3 hby
  cases torn
  · have HR' := Lib.hid (HR rfl a cap s2 HI.out)
    clear HR
    obtain ⟨len, hlen⟩ : ∃ len, zs.length = len := ⟨_, rfl⟩
    have HL := Lib.hid hlen
    rw [hlen] at s1 s2 hsz hle HR' HS1
    clear hlen
    go_enter Try.func55, Try.ntmps55
    go_wp2_with fail
    refine HR'.out.mono ?_
    rintro e W ⟨rfl, hN⟩
    have hlt := HT.out.lt
    have g0 : W.cell? ⟨t, 0, none⟩ = some (.slice a len cap) := (hN.b.cell (p := ⟨t, 0, none⟩) hlt).trans s1
    have g1 : W.cell? ⟨t, 1, none⟩ = some (.bool false) := (hN.b.cell (p := ⟨t, 1, none⟩) hlt).trans c1
    have j0 : W.frozen? ⟨t, 0, none⟩ = false := (hN.b.frozen (p := ⟨t, 0, none⟩) hlt).trans f0
    have j1 : W.frozen? ⟨t, 1, none⟩ = false := (hN.b.frozen (p := ⟨t, 1, none⟩) hlt).trans f1
    have HI2 := Lib.hid (Ints.below (n₀ := t) ⟨hN.b.os, hN.b.tape, hN.b.output, hN.b.size, fun k hk => hN.b.block k (by omega)⟩ HI.out)
    have HN := Lib.hid hN
    clear s1 c1 f0 f1 hN HT HI HR'
    by_cases hs0 : size = 0
    · obtain rfl := hs0
      clear hsz
      go_wp2_with fail
      go_ret
      have hc1 := World.cell?_setCell_same' W ⟨t, 1, none⟩ (.bool true) (by rw [g1]; rfl)
      unfold NextQ NextP
      rw [if_neg (by simp), if_pos rfl]
      unfold stepT
      rw [if_neg (by simp), if_pos rfl]
      exact ⟨⟨rfl, ⟨⟨a, cap, by rw [HL.out]; simp [go_sem, g0], by rw [HL.out]; exact s2, (Up.ints (t := t) (Up.set (Up.refl t W) 1 _) (Nat.le_refl _) (by have := HN.out.b.size; omega) HI2.out)⟩, hc1, by rw [World.frozen?_setCell]; exact j0, by rw [World.frozen?_setCell]; exact j1, HB.out, by rw [HL.out]; exact hle⟩, (Up.of_nw HN.out).set 1 _⟩, LoK.mk HS1.out (show _ = some (Value.slice a len cap) by simp [go_sem, g0]) (fun p hp => ⟨p, hp, rfl⟩)⟩
    · have hd : ((size : Int) == 0) = false := by rw [beq_eq_false_iff_ne]; omega
      have hpos : 0 < size := by omega
      have HS := Lib.hid hs0
      clear hs0
      by_cases hcs : cap = size
      · have hrun : len = size := by omega
        subst hcs
        obtain rfl := hrun
        have HI3 : Ints t .u8 W a (zs.drop len) := .inl (List.length_eq_zero_iff.1 (by rw [List.length_drop, HL.out]; omega))
        have HL3 : (zs.drop len).length = 0 := by rw [List.length_drop, HL.out]; omega
        have HX := Lib.hid (And.intro HI3 HL3)
        clear HI3 HL3 s2 hsz
        cases a with
        | none =>
          rcases HI2.out with hz | ⟨b, off, ha, _⟩
          · have := HL.out; rw [hz] at this; simp at this; omega
          · cases ha
        | some ad =>
          go_wp2_with fail
          go_ret
          obtain ⟨HI3, HL3⟩ := HX.out
          unfold NextQ NextP
          rw [if_neg (by simp), if_neg HS.out]
          unfold stepT
          rw [if_neg (by simp), if_neg HS.out]
          have hc1 := World.cell?_setCell_same' W ⟨t, 1, none⟩ (.bool false) (by rw [g1]; rfl)
          have hu := (Up.set (Up.refl t W) 1 (.bool false)).set 0 (.slice (some ad) 0 0)
          have hcc0 := World.cell?_setCell_same' (W.setCell ⟨t, 1, none⟩ (.bool false)) ⟨t, 0, none⟩ (.slice (some ad) 0 0) (by simp [go_sem, g0])
          have hcc1 := (World.cell?_setCell_other (W.setCell ⟨t, 1, none⟩ (.bool false)) ⟨t, 0, none⟩ ⟨t, 1, none⟩ (.slice (some ad) 0 0) (by simp)).trans hc1
          refine ⟨⟨rfl, ⟨⟨_, _, by rw [HL3]; exact hcc0, by rw [HL3]; omega, (Up.ints (t := t) hu (Nat.le_refl _) (by have := HN.out.b.size; omega) HI3)⟩, hcc1, by rw [World.frozen?_setCell, World.frozen?_setCell]; exact j0, by rw [World.frozen?_setCell, World.frozen?_setCell]; exact j1, fun x hx => HB.out x (List.mem_of_mem_drop hx), by rw [HL3]; omega⟩, (Up.of_nw HN.out).trans hu⟩, LoK.mk HS1.out hcc0 (fun p hp => ⟨_, rfl, by cases hp; rfl⟩)⟩
      · have hc2 : size ≤ cap := by omega
        have hc3 : (cap == size) = false := by simpa using hcs
        have hc4 : (size == cap) = false := by simpa using fun h => hcs h.symm
        have HX : ∃ b off, a = some ⟨b, off, none⟩ ∧ Ints t .u8 W (some ⟨b, off + size, none⟩) (zs.drop size) := by
          rcases HI2.out with hz | ⟨b, off, ha, hb, hc⟩
          · have := HL.out; rw [hz] at this; simp at this; omega
          · refine ⟨b, off, ha, .inr ⟨b, off + size, rfl, hb, fun j hj => ?_⟩⟩
            rw [List.length_drop] at hj
            have := hc (size + j) (by omega)
            rw [← Nat.add_assoc] at this
            rw [this, List.getElem?_drop]
        obtain ⟨b, off, rfl, HI3⟩ := HX
        have HL3 : (zs.drop size).length = len - size := by rw [List.length_drop, HL.out]
        have HX := Lib.hid (And.intro HI3 HL3)
        clear HI3 HL3
        go_wp2_with fail
        go_ret
        obtain ⟨HI3, HL3⟩ := HX.out
        unfold NextQ NextP
        rw [if_neg (by simp), if_neg HS.out]
        unfold stepT
        rw [if_neg (by simp), if_neg HS.out]
        have hc1 := World.cell?_setCell_same' W ⟨t, 1, none⟩ (.bool false) (by rw [g1]; rfl)
        have hu := (Up.set (Up.refl t W) 1 (.bool false)).set 0 (.slice (some ⟨b, off + size, none⟩) (len - size) (cap - size))
        have hcc0 := World.cell?_setCell_same' (W.setCell ⟨t, 1, none⟩ (.bool false)) ⟨t, 0, none⟩ (.slice (some ⟨b, off + size, none⟩) (len - size) (cap - size)) (by simp [go_sem, g0])
        have hcc1 := (World.cell?_setCell_other (W.setCell ⟨t, 1, none⟩ (.bool false)) ⟨t, 0, none⟩ ⟨t, 1, none⟩ (.slice (some ⟨b, off + size, none⟩) (len - size) (cap - size)) (by simp)).trans hc1
        refine ⟨⟨rfl, ⟨⟨_, _, by rw [HL3]; exact hcc0, by rw [HL3]; omega, (Up.ints (t := t) hu (Nat.le_refl _) (by have := HN.out.b.size; omega) HI3)⟩, hcc1, by rw [World.frozen?_setCell, World.frozen?_setCell]; exact j0, by rw [World.frozen?_setCell, World.frozen?_setCell]; exact j1, fun x hx => HB.out x (List.mem_of_mem_drop hx), by rw [HL3]; omega⟩, (Up.of_nw HN.out).trans hu⟩, LoK.mk HS1.out hcc0 (fun p hp => ⟨_, rfl, by cases hp; rfl⟩)⟩
  · go_enter Try.func55, Try.ntmps55
    go_wp2_with fail
    go_ret
    exact ⟨⟨rfl, HT.out, Up.refl t _⟩, LoK.refl t _⟩

theorem next_u64 (t : Nat) (zs : List Int) (torn : Bool) (V : Value) (size : Nat) (hsz : size ≤ zs.length)  (w : World) (h : TapeAt w t zs torn)
    (HR : torn = false → ∀ a cap, zs.length ≤ cap → Ints t .u8 w a zs → Calls Try.prog 56 #[.slice a zs.length cap] w fun e W' => e = .returned (.tuple #[V, .int .i64 (size : Int)]) ∧ Nw w W') :
    Calls Try.prog 55 #[.pointer (some ⟨t, 0, none⟩), .func (.func 56) #[] #[]] w (NextP (.int .u64 0) V t zs torn size w) :=
  (next_u64_q t zs torn V size hsz  w h HR).mono fun _ _ h => h.1

set_option maxRecDepth 100000 in
set_option maxHeartbeats 2000000 in
theorem next_u8_q (t : Nat) (zs : List Int) (torn : Bool) (V : Value) (size : Nat) (hsz : size ≤ zs.length)  (w : World) (h : TapeAt w t zs torn)
    (HR : torn = false → ∀ a cap, zs.length ≤ cap → Ints t .u8 w a zs → Calls Try.prog 38 #[.slice a zs.length cap] w fun e W' => e = .returned (.tuple #[V, .int .i64 (size : Int)]) ∧ Nw w W') :
    Calls Try.prog 37 #[.pointer (some ⟨t, 0, none⟩), .func (.func 38) #[] #[]] w (NextQ (.int .u8 0) V t zs torn size w) := by
  have hle := h.le
  have HT := Lib.hid h
  obtain ⟨⟨a, cap, s1, s2, s3⟩, c1, f0, f1, hby, _⟩ := h
  have HS1 := Lib.hid s1
  have HI := Lib.hid s3
  have HB := Lib.hid hby
  clear s3 hby
  cases torn
  · have HR' := Lib.hid (HR rfl a cap s2 HI.out)
    clear HR
    obtain ⟨len, hlen⟩ : ∃ len, zs.length = len := ⟨_, rfl⟩
    have HL := Lib.hid hlen
    rw [hlen] at s1 s2 hsz hle HR' HS1
    clear hlen
    go_enter Try.func37, Try.ntmps37
    go_wp2_with fail
    refine HR'.out.mono ?_
    rintro e W ⟨rfl, hN⟩
    have hlt := HT.out.lt
    have g0 : W.cell? ⟨t, 0, none⟩ = some (.slice a len cap) := (hN.b.cell (p := ⟨t, 0, none⟩) hlt).trans s1
    have g1 : W.cell? ⟨t, 1, none⟩ = some (.bool false) := (hN.b.cell (p := ⟨t, 1, none⟩) hlt).trans c1
    have j0 : W.frozen? ⟨t, 0, none⟩ = false := (hN.b.frozen (p := ⟨t, 0, none⟩) hlt).trans f0
    have j1 : W.frozen? ⟨t, 1, none⟩ = false := (hN.b.frozen (p := ⟨t, 1, none⟩) hlt).trans f1
    have HI2 := Lib.hid (Ints.below (n₀ := t) ⟨hN.b.os, hN.b.tape, hN.b.output, hN.b.size, fun k hk => hN.b.block k (by omega)⟩ HI.out)
    have HN := Lib.hid hN
    clear s1 c1 f0 f1 hN HT HI HR'
    by_cases hs0 : size = 0
    · obtain rfl := hs0
      clear hsz
      go_wp2_with fail
      go_ret
      have hc1 := World.cell?_setCell_same' W ⟨t, 1, none⟩ (.bool true) (by rw [g1]; rfl)
      unfold NextQ NextP
      rw [if_neg (by simp), if_pos rfl]
      unfold stepT
      rw [if_neg (by simp), if_pos rfl]
      exact ⟨⟨rfl, ⟨⟨a, cap, by rw [HL.out]; simp [go_sem, g0], by rw [HL.out]; exact s2, (Up.ints (t := t) (Up.set (Up.refl t W) 1 _) (Nat.le_refl _) (by have := HN.out.b.size; omega) HI2.out)⟩, hc1, by rw [World.frozen?_setCell]; exact j0, by rw [World.frozen?_setCell]; exact j1, HB.out, by rw [HL.out]; exact hle⟩, (Up.of_nw HN.out).set 1 _⟩, LoK.mk HS1.out (show _ = some (Value.slice a len cap) by simp [go_sem, g0]) (fun p hp => ⟨p, hp, rfl⟩)⟩
    · have hd : ((size : Int) == 0) = false := by rw [beq_eq_false_iff_ne]; omega
      have hpos : 0 < size := by omega
      have HS := Lib.hid hs0
      clear hs0
      by_cases hcs : cap = size
      · have hrun : len = size := by omega
        subst hcs
        obtain rfl := hrun
        have HI3 : Ints t .u8 W a (zs.drop len) := .inl (List.length_eq_zero_iff.1 (by rw [List.length_drop, HL.out]; omega))
        have HL3 : (zs.drop len).length = 0 := by rw [List.length_drop, HL.out]; omega
        have HX := Lib.hid (And.intro HI3 HL3)
        clear HI3 HL3 s2 hsz
        cases a with
        | none =>
          rcases HI2.out with hz | ⟨b, off, ha, _⟩
          · have := HL.out; rw [hz] at this; simp at this; omega
          · cases ha
        | some ad =>
          go_wp2_with fail
          go_ret
          obtain ⟨HI3, HL3⟩ := HX.out
          unfold NextQ NextP
          rw [if_neg (by simp), if_neg HS.out]
          unfold stepT
          rw [if_neg (by simp), if_neg HS.out]
          have hc1 := World.cell?_setCell_same' W ⟨t, 1, none⟩ (.bool false) (by rw [g1]; rfl)
          have hu := (Up.set (Up.refl t W) 1 (.bool false)).set 0 (.slice (some ad) 0 0)
          have hcc0 := World.cell?_setCell_same' (W.setCell ⟨t, 1, none⟩ (.bool false)) ⟨t, 0, none⟩ (.slice (some ad) 0 0) (by simp [go_sem, g0])
          have hcc1 := (World.cell?_setCell_other (W.setCell ⟨t, 1, none⟩ (.bool false)) ⟨t, 0, none⟩ ⟨t, 1, none⟩ (.slice (some ad) 0 0) (by simp)).trans hc1
          refine ⟨⟨rfl, ⟨⟨_, _, by rw [HL3]; exact hcc0, by rw [HL3]; omega, (Up.ints (t := t) hu (Nat.le_refl _) (by have := HN.out.b.size; omega) HI3)⟩, hcc1, by rw [World.frozen?_setCell, World.frozen?_setCell]; exact j0, by rw [World.frozen?_setCell, World.frozen?_setCell]; exact j1, fun x hx => HB.out x (List.mem_of_mem_drop hx), by rw [HL3]; omega⟩, (Up.of_nw HN.out).trans hu⟩, LoK.mk HS1.out hcc0 (fun p hp => ⟨_, rfl, by cases hp; rfl⟩)⟩
      · have hc2 : size ≤ cap := by omega
        have hc3 : (cap == size) = false := by simpa using hcs
        have hc4 : (size == cap) = false := by simpa using fun h => hcs h.symm
        have HX : ∃ b off, a = some ⟨b, off, none⟩ ∧ Ints t .u8 W (some ⟨b, off + size, none⟩) (zs.drop size) := by
          rcases HI2.out with hz | ⟨b, off, ha, hb, hc⟩
          · have := HL.out; rw [hz] at this; simp at this; omega
          · refine ⟨b, off, ha, .inr ⟨b, off + size, rfl, hb, fun j hj => ?_⟩⟩
            rw [List.length_drop] at hj
            have := hc (size + j) (by omega)
            rw [← Nat.add_assoc] at this
            rw [this, List.getElem?_drop]
        obtain ⟨b, off, rfl, HI3⟩ := HX
        have HL3 : (zs.drop size).length = len - size := by rw [List.length_drop, HL.out]
        have HX := Lib.hid (And.intro HI3 HL3)
        clear HI3 HL3
        go_wp2_with fail
        go_ret
        obtain ⟨HI3, HL3⟩ := HX.out
        unfold NextQ NextP
        rw [if_neg (by simp), if_neg HS.out]
        unfold stepT
        rw [if_neg (by simp), if_neg HS.out]
        have hc1 := World.cell?_setCell_same' W ⟨t, 1, none⟩ (.bool false) (by rw [g1]; rfl)
        have hu := (Up.set (Up.refl t W) 1 (.bool false)).set 0 (.slice (some ⟨b, off + size, none⟩) (len - size) (cap - size))
        have hcc0 := World.cell?_setCell_same' (W.setCell ⟨t, 1, none⟩ (.bool false)) ⟨t, 0, none⟩ (.slice (some ⟨b, off + size, none⟩) (len - size) (cap - size)) (by simp [go_sem, g0])
        have hcc1 := (World.cell?_setCell_other (W.setCell ⟨t, 1, none⟩ (.bool false)) ⟨t, 0, none⟩ ⟨t, 1, none⟩ (.slice (some ⟨b, off + size, none⟩) (len - size) (cap - size)) (by simp)).trans hc1
        refine ⟨⟨rfl, ⟨⟨_, _, by rw [HL3]; exact hcc0, by rw [HL3]; omega, (Up.ints (t := t) hu (Nat.le_refl _) (by have := HN.out.b.size; omega) HI3)⟩, hcc1, by rw [World.frozen?_setCell, World.frozen?_setCell]; exact j0, by rw [World.frozen?_setCell, World.frozen?_setCell]; exact j1, fun x hx => HB.out x (List.mem_of_mem_drop hx), by rw [HL3]; omega⟩, (Up.of_nw HN.out).trans hu⟩, LoK.mk HS1.out hcc0 (fun p hp => ⟨_, rfl, by cases hp; rfl⟩)⟩
  · go_enter Try.func37, Try.ntmps37
    go_wp2_with fail
    go_ret
    exact ⟨⟨rfl, HT.out, Up.refl t _⟩, LoK.refl t _⟩

theorem next_u8 (t : Nat) (zs : List Int) (torn : Bool) (V : Value) (size : Nat) (hsz : size ≤ zs.length)  (w : World) (h : TapeAt w t zs torn)
    (HR : torn = false → ∀ a cap, zs.length ≤ cap → Ints t .u8 w a zs → Calls Try.prog 38 #[.slice a zs.length cap] w fun e W' => e = .returned (.tuple #[V, .int .i64 (size : Int)]) ∧ Nw w W') :
    Calls Try.prog 37 #[.pointer (some ⟨t, 0, none⟩), .func (.func 38) #[] #[]] w (NextP (.int .u8 0) V t zs torn size w) :=
  (next_u8_q t zs torn V size hsz  w h HR).mono fun _ _ h => h.1

set_option maxRecDepth 100000 in
set_option maxHeartbeats 2000000 in
theorem next_str_q (t : Nat) (zs : List Int) (torn : Bool) (V : Value) (size : Nat) (hsz : size ≤ zs.length) (B : Nat) (w : World) (h : TapeAt w t zs torn)
    (HR : torn = false → ∀ a cap, zs.length ≤ cap → Ints t .u8 w a zs → Calls Try.prog 58 #[.slice a zs.length cap, .pointer (some ⟨B, 0, none⟩)] w fun e W' => e = .returned (.tuple #[V, .int .i64 (size : Int)]) ∧ Nw w W') :
    Calls Try.prog 57 #[.pointer (some ⟨t, 0, none⟩), .func (.func 58) #[] #[.pointer (some ⟨B, 0, none⟩)]] w (NextQ (.string ByteArray.empty) V t zs torn size w) := by
  have hle := h.le
  have HT := Lib.hid h
  obtain ⟨⟨a, cap, s1, s2, s3⟩, c1, f0, f1, hby, _⟩ := h
  have HS1 := Lib.hid s1
  have HI := Lib.hid s3
  have HB := Lib.hid hby
  clear s3 hby
  cases torn
  · have HR' := Lib.hid (HR rfl a cap s2 HI.out)
    clear HR
    obtain ⟨len, hlen⟩ : ∃ len, zs.length = len := ⟨_, rfl⟩
    have HL := Lib.hid hlen
    rw [hlen] at s1 s2 hsz hle HR' HS1
    clear hlen
    go_enter Try.func57, Try.ntmps57
    go_wp2_with fail
    refine HR'.out.mono ?_
    rintro e W ⟨rfl, hN⟩
    have hlt := HT.out.lt
    have g0 : W.cell? ⟨t, 0, none⟩ = some (.slice a len cap) := (hN.b.cell (p := ⟨t, 0, none⟩) hlt).trans s1
    have g1 : W.cell? ⟨t, 1, none⟩ = some (.bool false) := (hN.b.cell (p := ⟨t, 1, none⟩) hlt).trans c1
    have j0 : W.frozen? ⟨t, 0, none⟩ = false := (hN.b.frozen (p := ⟨t, 0, none⟩) hlt).trans f0
    have j1 : W.frozen? ⟨t, 1, none⟩ = false := (hN.b.frozen (p := ⟨t, 1, none⟩) hlt).trans f1
    have HI2 := Lib.hid (Ints.below (n₀ := t) ⟨hN.b.os, hN.b.tape, hN.b.output, hN.b.size, fun k hk => hN.b.block k (by omega)⟩ HI.out)
    have HN := Lib.hid hN
    clear s1 c1 f0 f1 hN HT HI HR'
    by_cases hs0 : size = 0
    · obtain rfl := hs0
      clear hsz
      go_wp2_with fail
      go_ret
      have hc1 := World.cell?_setCell_same' W ⟨t, 1, none⟩ (.bool true) (by rw [g1]; rfl)
      unfold NextQ NextP
      rw [if_neg (by simp), if_pos rfl]
      unfold stepT
      rw [if_neg (by simp), if_pos rfl]
      exact ⟨⟨rfl, ⟨⟨a, cap, by rw [HL.out]; simp [go_sem, g0], by rw [HL.out]; exact s2, (Up.ints (t := t) (Up.set (Up.refl t W) 1 _) (Nat.le_refl _) (by have := HN.out.b.size; omega) HI2.out)⟩, hc1, by rw [World.frozen?_setCell]; exact j0, by rw [World.frozen?_setCell]; exact j1, HB.out, by rw [HL.out]; exact hle⟩, (Up.of_nw HN.out).set 1 _⟩, LoK.mk HS1.out (show _ = some (Value.slice a len cap) by simp [go_sem, g0]) (fun p hp => ⟨p, hp, rfl⟩)⟩
    · have hd : ((size : Int) == 0) = false := by rw [beq_eq_false_iff_ne]; omega
      have hpos : 0 < size := by omega
      have HS := Lib.hid hs0
      clear hs0
      by_cases hcs : cap = size
      · have hrun : len = size := by omega
        subst hcs
        obtain rfl := hrun
        have HI3 : Ints t .u8 W a (zs.drop len) := .inl (List.length_eq_zero_iff.1 (by rw [List.length_drop, HL.out]; omega))
        have HL3 : (zs.drop len).length = 0 := by rw [List.length_drop, HL.out]; omega
        have HX := Lib.hid (And.intro HI3 HL3)
        clear HI3 HL3 s2 hsz
        cases a with
        | none =>
          rcases HI2.out with hz | ⟨b, off, ha, _⟩
          · have := HL.out; rw [hz] at this; simp at this; omega
          · cases ha
        | some ad =>
          go_wp2_with fail
          go_ret
          obtain ⟨HI3, HL3⟩ := HX.out
          unfold NextQ NextP
          rw [if_neg (by simp), if_neg HS.out]
          unfold stepT
          rw [if_neg (by simp), if_neg HS.out]
          have hc1 := World.cell?_setCell_same' W ⟨t, 1, none⟩ (.bool false) (by rw [g1]; rfl)
          have hu := (Up.set (Up.refl t W) 1 (.bool false)).set 0 (.slice (some ad) 0 0)
          have hcc0 := World.cell?_setCell_same' (W.setCell ⟨t, 1, none⟩ (.bool false)) ⟨t, 0, none⟩ (.slice (some ad) 0 0) (by simp [go_sem, g0])
          have hcc1 := (World.cell?_setCell_other (W.setCell ⟨t, 1, none⟩ (.bool false)) ⟨t, 0, none⟩ ⟨t, 1, none⟩ (.slice (some ad) 0 0) (by simp)).trans hc1
          refine ⟨⟨rfl, ⟨⟨_, _, by rw [HL3]; exact hcc0, by rw [HL3]; omega, (Up.ints (t := t) hu (Nat.le_refl _) (by have := HN.out.b.size; omega) HI3)⟩, hcc1, by rw [World.frozen?_setCell, World.frozen?_setCell]; exact j0, by rw [World.frozen?_setCell, World.frozen?_setCell]; exact j1, fun x hx => HB.out x (List.mem_of_mem_drop hx), by rw [HL3]; omega⟩, (Up.of_nw HN.out).trans hu⟩, LoK.mk HS1.out hcc0 (fun p hp => ⟨_, rfl, by cases hp; rfl⟩)⟩
      · have hc2 : size ≤ cap := by omega
        have hc3 : (cap == size) = false := by simpa using hcs
        have hc4 : (size == cap) = false := by simpa using fun h => hcs h.symm
        have HX : ∃ b off, a = some ⟨b, off, none⟩ ∧ Ints t .u8 W (some ⟨b, off + size, none⟩) (zs.drop size) := by
          rcases HI2.out with hz | ⟨b, off, ha, hb, hc⟩
          · have := HL.out; rw [hz] at this; simp at this; omega
          · refine ⟨b, off, ha, .inr ⟨b, off + size, rfl, hb, fun j hj => ?_⟩⟩
            rw [List.length_drop] at hj
            have := hc (size + j) (by omega)
            rw [← Nat.add_assoc] at this
            rw [this, List.getElem?_drop]
        obtain ⟨b, off, rfl, HI3⟩ := HX
        have HL3 : (zs.drop size).length = len - size := by rw [List.length_drop, HL.out]
        have HX := Lib.hid (And.intro HI3 HL3)
        clear HI3 HL3
        go_wp2_with fail
        go_ret
        obtain ⟨HI3, HL3⟩ := HX.out
        unfold NextQ NextP
        rw [if_neg (by simp), if_neg HS.out]
        unfold stepT
        rw [if_neg (by simp), if_neg HS.out]
        have hc1 := World.cell?_setCell_same' W ⟨t, 1, none⟩ (.bool false) (by rw [g1]; rfl)
        have hu := (Up.set (Up.refl t W) 1 (.bool false)).set 0 (.slice (some ⟨b, off + size, none⟩) (len - size) (cap - size))
        have hcc0 := World.cell?_setCell_same' (W.setCell ⟨t, 1, none⟩ (.bool false)) ⟨t, 0, none⟩ (.slice (some ⟨b, off + size, none⟩) (len - size) (cap - size)) (by simp [go_sem, g0])
        have hcc1 := (World.cell?_setCell_other (W.setCell ⟨t, 1, none⟩ (.bool false)) ⟨t, 0, none⟩ ⟨t, 1, none⟩ (.slice (some ⟨b, off + size, none⟩) (len - size) (cap - size)) (by simp)).trans hc1
        refine ⟨⟨rfl, ⟨⟨_, _, by rw [HL3]; exact hcc0, by rw [HL3]; omega, (Up.ints (t := t) hu (Nat.le_refl _) (by have := HN.out.b.size; omega) HI3)⟩, hcc1, by rw [World.frozen?_setCell, World.frozen?_setCell]; exact j0, by rw [World.frozen?_setCell, World.frozen?_setCell]; exact j1, fun x hx => HB.out x (List.mem_of_mem_drop hx), by rw [HL3]; omega⟩, (Up.of_nw HN.out).trans hu⟩, LoK.mk HS1.out hcc0 (fun p hp => ⟨_, rfl, by cases hp; rfl⟩)⟩
  · go_enter Try.func57, Try.ntmps57
    go_wp2_with fail
    go_ret
    exact ⟨⟨rfl, HT.out, Up.refl t _⟩, LoK.refl t _⟩

theorem next_str (t : Nat) (zs : List Int) (torn : Bool) (V : Value) (size : Nat) (hsz : size ≤ zs.length) (B : Nat) (w : World) (h : TapeAt w t zs torn)
    (HR : torn = false → ∀ a cap, zs.length ≤ cap → Ints t .u8 w a zs → Calls Try.prog 58 #[.slice a zs.length cap, .pointer (some ⟨B, 0, none⟩)] w fun e W' => e = .returned (.tuple #[V, .int .i64 (size : Int)]) ∧ Nw w W') :
    Calls Try.prog 57 #[.pointer (some ⟨t, 0, none⟩), .func (.func 58) #[] #[.pointer (some ⟨B, 0, none⟩)]] w (NextP (.string ByteArray.empty) V t zs torn size w) :=
  (next_str_q t zs torn V size hsz B w h HR).mono fun _ _ h => h.1

set_option maxRecDepth 100000 in
set_option maxHeartbeats 1000000 in
theorem next_nil_u64  (w : World) : Calls Try.prog 55 #[.pointer none, .func (.func 56) #[] #[]] w fun e w' => e = .returned (.int .u64 0) ∧ w = w' := by
  go_enter Try.func55, Try.ntmps55
  go_wp2_with fail
  go_ret
  exact ⟨rfl, rfl⟩

set_option maxRecDepth 100000 in
set_option maxHeartbeats 1000000 in
theorem next_nil_u8  (w : World) : Calls Try.prog 37 #[.pointer none, .func (.func 38) #[] #[]] w fun e w' => e = .returned (.int .u8 0) ∧ w = w' := by
  go_enter Try.func37, Try.ntmps37
  go_wp2_with fail
  go_ret
  exact ⟨rfl, rfl⟩

set_option maxRecDepth 100000 in
set_option maxHeartbeats 1000000 in
theorem next_nil_str (B : Nat) (w : World) : Calls Try.prog 57 #[.pointer none, .func (.func 58) #[] #[.pointer (some ⟨B, 0, none⟩)]] w fun e w' => e = .returned (.string ByteArray.empty) ∧ w = w' := by
  go_enter Try.func57, Try.ntmps57
  go_wp2_with fail
  go_ret
  exact ⟨rfl, rfl⟩

end Go.Proofs.Ytphcdndohdnolaa
