/-
  THE DOCUMENT's Get (grommetref20).
-/
import Derived.Deep.DeepCutAuto
import Derived.Deep.CutBlock
import Derived.Outline
import Derived.Test.YtphcdndohdnolaaRqD
import Derived.Test.YtphcdndohdnolaaOctP
namespace Go.Proofs.Ytphcdndohdnolaa
open Go.RowKit Go.Shelf
set_option linter.unusedVariables false

/-- Where the document's Get stands. -/
structure GS (w : World) (qb : Nat) (X : World) (s : Rd) : Prop where
  tape : TapeAt X (w.heap.size + 1) s.zs s.torn w.heap.size
  rq : RqAt X qb s.r
  box : RqAt X w.heap.size zeroRq
  nw : Nw w X
theorem GS.read {w X X1 : World} {qb : Nat} {s : Rd} {zs : List Int} {torn : Bool} (h : GS w qb X s) (hq : w.heap.size + 1 < qb) (hT : TapeAt X1 (w.heap.size + 1) zs torn w.heap.size) (hU : Up (w.heap.size + 1) X X1) : GS w qb X1 ⟨zs, torn, s.r⟩ :=
  ⟨hT, h.rq.up hU (by omega), h.box.up hU (by omega), ⟨Up.below h.nw.b hU h.nw.b.size (by omega)⟩⟩
theorem GS.store {w X : World} {qb : Nat} {s : Rd} {r : Rq} {k : Nat} {v : Value} (h : GS w qb X s) (hq : w.heap.size + 1 < qb) (hR : RqAt (X.setCell ⟨qb, k, none⟩ v) qb r) : GS w qb (X.setCell ⟨qb, k, none⟩ v) ⟨s.zs, s.torn, r⟩ := by
  have hU : Up qb X (X.setCell ⟨qb, k, none⟩ v) := (Up.refl qb X).set k v
  exact ⟨h.tape.upM hU (by omega) (by omega) h.nw.b.size, hR, h.box.up hU (by omega), ⟨Up.below h.nw.b hU h.nw.b.size (by omega)⟩⟩
def SwP (w : World) (qb : Nat) (zs : List Int) (wx : World) : Prop := ∃ s, GS w qb wx s ∧ (known (kindR zs) = true → s = readS zs) ∧ (known (kindR zs) = false → s.r.kind = kindR zs)

set_option maxRecDepth 100000 in
set_option maxHeartbeats 8000000 in
theorem rget_any (a : Option Addr) (len cap : Nat) (zs : List Int) (hl : zs.length = len) (hcap : len ≤ cap) (hreach : len ≤ 140737488355000) (hz : ∀ x ∈ zs, isByte x) (w : World) (hI : Ints w.heap.size .u8 w a zs) :
    Calls Try.prog 12 #[.slice a len cap] w (GetR zs w) := by
  have HIW := Lib.hid (fun W (h : Nw w W) => h.ints hI)
  have HCV := Lib.hid (fun W (h : Nw w W) => cv8 (w := W) cap hl (h.ints hI))
  have HL := Lib.hid hl
  have HZ := Lib.hid hz
  have HIB := Lib.hid hI
  have hn0 : Nw w ((w.alloc (.cells #[.int .u8 0, .int .u8 0, .int .u64 0, .int .u64 0, .int .u64 0, .string ⟨#[]⟩, .string ⟨#[]⟩, .string ⟨#[]⟩] 24)).alloc (.cells #[.slice a len cap, .bool false] 46)) := (Nw.refl.alloc _).alloc _
  have R0 : RqAt ((w.alloc (.cells #[.int .u8 0, .int .u8 0, .int .u64 0, .int .u64 0, .int .u64 0, .string ⟨#[]⟩, .string ⟨#[]⟩, .string ⟨#[]⟩] 24)).alloc (.cells #[.slice a len cap, .bool false] 46)) w.heap.size zeroRq := (RqAt.new w zeroRq).nw (Nw.refl.alloc _)
  have T0 : TapeAt ((w.alloc (.cells #[.int .u8 0, .int .u8 0, .int .u64 0, .int .u64 0, .int .u64 0, .string ⟨#[]⟩, .string ⟨#[]⟩, .string ⟨#[]⟩] 24)).alloc (.cells #[.slice a len cap, .bool false] 46)) (w.heap.size + 1) zs false w.heap.size := by
    have e : w.heap.size + 1 = (w.alloc (.cells #[.int .u8 0, .int .u8 0, .int .u64 0, .int .u64 0, .int .u64 0, .string ⟨#[]⟩, .string ⟨#[]⟩, .string ⟨#[]⟩] 24)).heap.size := by simp
    refine ⟨⟨a, cap, by rw [e, hl]; simp [go_sem], by omega, hI.below hn0.b⟩, by rw [e]; simp [go_sem], by rw [e]; simp [go_sem], by rw [e]; simp [go_sem], hz, by omega⟩
  have hs0 : ((w.alloc (.cells #[.int .u8 0, .int .u8 0, .int .u64 0, .int .u64 0, .int .u64 0, .string ⟨#[]⟩, .string ⟨#[]⟩, .string ⟨#[]⟩] 24)).alloc (.cells #[.slice a len cap, .bool false] 46)).heap.size = w.heap.size + 2 := by simp
  clear hl hI hz
  generalize hW : (w.alloc (.cells #[.int .u8 0, .int .u8 0, .int .u64 0, .int .u64 0, .int .u64 0, .string ⟨#[]⟩, .string ⟨#[]⟩, .string ⟨#[]⟩] 24)).alloc (.cells #[.slice a len cap, .bool false] 46) = W1 at hn0 R0 T0 hs0
  have HN0 := Lib.hid hn0
  have HR0 := Lib.hid R0
  have HB := Lib.hid (rbyte_any (w.heap.size + 1) zs false W1 w.heap.size (by omega) T0)
  have HS0 := Lib.hid hs0
  clear hn0 R0 T0 hs0
  go_enter Try.func12, Try.ntmps12
  go_wp2_with fail
  clear hW
  refine HB.out.mono ?_
  rintro e W2 ⟨rfl, hT2, hU2⟩
  go_upto_region 3 with fail
  rw [show byR zs false = kindR zs from rfl]
  have HG0 := Lib.hid (show GS w W2.heap.size (W2.alloc (.cells #[.int .u8 (kindR zs), .int .u8 0, .int .u64 0, .int .u64 0, .int .u64 0, .string ⟨#[]⟩, .string ⟨#[]⟩, .string ⟨#[]⟩] 24)) (startR zs) from
    ⟨(hT2.upM (Up.of_nw (Nw.refl.alloc _)) (Nat.ne_of_lt hT2.lt) (Nat.le_trans HN0.out.b.size hU2.size) (Nat.le_trans HN0.out.b.size hU2.size)), RqAt.new W2 (startR zs).r, (HR0.out.up hU2 (by omega)).nw (Nw.refl.alloc _), (⟨Up.below HN0.out.b hU2 HN0.out.b.size (by omega)⟩ : Nw w W2).alloc _⟩)
  have hqb : w.heap.size + 1 < W2.heap.size := hT2.lt
  clear hT2 hU2 HB HN0 HR0
  generalize W2.alloc (.cells #[.int .u8 (kindR zs), .int .u8 0, .int .u64 0, .int .u64 0, .int .u64 0, .string ⟨#[]⟩, .string ⟨#[]⟩, .string ⟨#[]⟩] 24) = W3 at HG0 ⊢
  generalize W2.heap.size = qb at HG0 hqb ⊢
  have c0 := HG0.out.rq.c0
  rw [show (startR zs).r.kind = kindR zs from rfl] at c0
  obtain ⟨k0, hk0⟩ : ∃ k0, kindR zs = k0 := ⟨_, rfl⟩
  rw [hk0] at c0
  have HK := Lib.hid hk0
  go_upto_block 0 with fail
  go_cut [5] (fun v wx => v = .pointer (some ⟨qb, 0, none⟩) ∧ SwP w qb zs wx)
  case first =>
    have HX0 : True := trivial
    clear HX0
    obtain ⟨X0, hX0⟩ : ∃ X0, X0 = W3 := ⟨_, rfl⟩
    rw [← hX0] at HG0 c0 ⊢
    clear hX0
    rw [hk0]
    clear hk0
    by_cases hk : known k0 = true
    · rcases known_cases hk with rfl | rfl | rfl | rfl | rfl | rfl | rfl | rfl | rfl | rfl | rfl | rfl | rfl
      · clear hk
        have HC0 := Lib.hid (rtext_any (w.heap.size + 1) (startR zs).zs (startR zs).torn 200 (by decide) X0 w.heap.size (by omega) HG0.out.tape)
        have HX0 := Lib.hid (show get1 (startR zs) .path = ⟨(stepT (startR zs).zs (startR zs).torn (txtS (startR zs).zs 200)).1, (stepT (startR zs).zs (startR zs).torn (txtS (startR zs).zs 200)).2, { (startR zs).r with path := txtR (startR zs).zs (startR zs).torn 200 }⟩ from rfl)
        generalize txtR (startR zs).zs (startR zs).torn 200 = v0 at HC0 HX0
        generalize stepT (startR zs).zs (startR zs).torn (txtS (startR zs).zs 200) = st0 at HC0 HX0
        go_wp2_with fail
        refine HC0.out.mono ?_
        rintro e Y0 ⟨rfl, hT0, hU0⟩
        have HY0 := Lib.hid (HG0.out.read hqb hT0 hU0)
        have cc := HY0.out.rq.c5
        have ff := HY0.out.rq.f 5
        clear hT0 hU0
        have HG1 := Lib.hid (HY0.out.store hqb (HY0.out.rq.set5 v0))
        go_upto_region 7 with fail
        clear cc ff
        generalize Y0.setCell ⟨qb, 5, none⟩ (.string v0) = X1 at HG1 ⊢
        obtain ⟨s1, hs1⟩ : ∃ s, get1 (startR zs) .path = s := ⟨_, rfl⟩
        have HG1 := Lib.hid (show GS w qb X1 s1 from by rw [← hs1, HX0.out]; exact HG1.out)
        have HSS1 := Lib.hid hs1
        clear hs1
        have HC1 := Lib.hid (rnumber_any (w.heap.size + 1) (s1).zs (s1).torn X1 w.heap.size (by omega) HG1.out.tape)
        have HX1 := Lib.hid (show get1 (s1) .flags = ⟨(stepT (s1).zs (s1).torn (numS (s1).zs)).1, (stepT (s1).zs (s1).torn (numS (s1).zs)).2, { (s1).r with flags := min (numR (s1).zs (s1).torn) 255 }⟩ from rfl)
        have hnb := numR_bd HG1.out.tape.by_ (s1).torn
        generalize numR (s1).zs (s1).torn = v1 at HC1 HX1 hnb
        generalize stepT (s1).zs (s1).torn (numS (s1).zs) = st1 at HC1 HX1
        obtain ⟨n1, rfl⟩ := Int.eq_ofNat_of_zero_le hnb.1
        have hnb2 := hnb.2
        clear hnb
        go_wp2_with fail
        refine HC1.out.mono ?_
        rintro e Y1 ⟨rfl, hT1, hU1⟩
        have HY1 := Lib.hid (HG1.out.read hqb hT1 hU1)
        have cc := HY1.out.rq.c1
        have ff := HY1.out.rq.f 1
        clear hT1 hU1
        have HG2 := Lib.hid (HY1.out.store hqb (HY1.out.rq.set1 (min (n1 : Int) 255)))
        go_wp2_with fail
        clear cc ff
        go_meet
        refine ⟨rfl, get1 s1 .flags, by rw [HX1.out]; exact HG2.out, fun _ => ?_, fun h => ?_⟩
        · unfold readS; rw [HK.out, ← HSS1.out]; rfl
        · rw [HK.out] at h; exact absurd h (by decide)
      · clear hk
        have HC0 := Lib.hid (rnumber_any (w.heap.size + 1) (startR zs).zs (startR zs).torn X0 w.heap.size (by omega) HG0.out.tape)
        have HX0 := Lib.hid (show get1 (startR zs) .fd = ⟨(stepT (startR zs).zs (startR zs).torn (numS (startR zs).zs)).1, (stepT (startR zs).zs (startR zs).torn (numS (startR zs).zs)).2, { (startR zs).r with fd := numR (startR zs).zs (startR zs).torn }⟩ from rfl)
        generalize numR (startR zs).zs (startR zs).torn = v0 at HC0 HX0
        generalize stepT (startR zs).zs (startR zs).torn (numS (startR zs).zs) = st0 at HC0 HX0
        go_wp2_with fail
        refine HC0.out.mono ?_
        rintro e Y0 ⟨rfl, hT0, hU0⟩
        have HY0 := Lib.hid (HG0.out.read hqb hT0 hU0)
        have cc := HY0.out.rq.c2
        have ff := HY0.out.rq.f 2
        clear hT0 hU0
        have HG1 := Lib.hid (HY0.out.store hqb (HY0.out.rq.set2 v0))
        go_wp2_with fail
        clear cc ff
        go_meet
        refine ⟨rfl, get1 (startR zs) .fd, by rw [HX0.out]; exact HG1.out, fun _ => ?_, fun h => ?_⟩
        · unfold readS; rw [HK.out]; rfl
        · rw [HK.out] at h; exact absurd h (by decide)
      · clear hk
        have HC0 := Lib.hid (rnumber_any (w.heap.size + 1) (startR zs).zs (startR zs).torn X0 w.heap.size (by omega) HG0.out.tape)
        have HX0 := Lib.hid (show get1 (startR zs) .fd = ⟨(stepT (startR zs).zs (startR zs).torn (numS (startR zs).zs)).1, (stepT (startR zs).zs (startR zs).torn (numS (startR zs).zs)).2, { (startR zs).r with fd := numR (startR zs).zs (startR zs).torn }⟩ from rfl)
        generalize numR (startR zs).zs (startR zs).torn = v0 at HC0 HX0
        generalize stepT (startR zs).zs (startR zs).torn (numS (startR zs).zs) = st0 at HC0 HX0
        go_wp2_with fail
        refine HC0.out.mono ?_
        rintro e Y0 ⟨rfl, hT0, hU0⟩
        have HY0 := Lib.hid (HG0.out.read hqb hT0 hU0)
        have cc := HY0.out.rq.c2
        have ff := HY0.out.rq.f 2
        clear hT0 hU0
        have HG1 := Lib.hid (HY0.out.store hqb (HY0.out.rq.set2 v0))
        go_upto_region 12 with fail
        clear cc ff
        generalize Y0.setCell ⟨qb, 2, none⟩ (.int .u64 v0) = X1 at HG1 ⊢
        obtain ⟨s1, hs1⟩ : ∃ s, get1 (startR zs) .fd = s := ⟨_, rfl⟩
        have HG1 := Lib.hid (show GS w qb X1 s1 from by rw [← hs1, HX0.out]; exact HG1.out)
        have HSS1 := Lib.hid hs1
        clear hs1
        have HC1 := Lib.hid (rnumber_any (w.heap.size + 1) (s1).zs (s1).torn X1 w.heap.size (by omega) HG1.out.tape)
        have HX1 := Lib.hid (show get1 (s1) .size = ⟨(stepT (s1).zs (s1).torn (numS (s1).zs)).1, (stepT (s1).zs (s1).torn (numS (s1).zs)).2, { (s1).r with size := numR (s1).zs (s1).torn }⟩ from rfl)
        generalize numR (s1).zs (s1).torn = v1 at HC1 HX1
        generalize stepT (s1).zs (s1).torn (numS (s1).zs) = st1 at HC1 HX1
        go_wp2_with fail
        refine HC1.out.mono ?_
        rintro e Y1 ⟨rfl, hT1, hU1⟩
        have HY1 := Lib.hid (HG1.out.read hqb hT1 hU1)
        have cc := HY1.out.rq.c4
        have ff := HY1.out.rq.f 4
        clear hT1 hU1
        have HG2 := Lib.hid (HY1.out.store hqb (HY1.out.rq.set4 v1))
        go_wp2_with fail
        clear cc ff
        go_meet
        refine ⟨rfl, get1 s1 .size, by rw [HX1.out]; exact HG2.out, fun _ => ?_, fun h => ?_⟩
        · unfold readS; rw [HK.out, ← HSS1.out]; rfl
        · rw [HK.out] at h; exact absurd h (by decide)
      · clear hk
        have HC0 := Lib.hid (rnumber_any (w.heap.size + 1) (startR zs).zs (startR zs).torn X0 w.heap.size (by omega) HG0.out.tape)
        have HX0 := Lib.hid (show get1 (startR zs) .fd = ⟨(stepT (startR zs).zs (startR zs).torn (numS (startR zs).zs)).1, (stepT (startR zs).zs (startR zs).torn (numS (startR zs).zs)).2, { (startR zs).r with fd := numR (startR zs).zs (startR zs).torn }⟩ from rfl)
        generalize numR (startR zs).zs (startR zs).torn = v0 at HC0 HX0
        generalize stepT (startR zs).zs (startR zs).torn (numS (startR zs).zs) = st0 at HC0 HX0
        go_wp2_with fail
        refine HC0.out.mono ?_
        rintro e Y0 ⟨rfl, hT0, hU0⟩
        have HY0 := Lib.hid (HG0.out.read hqb hT0 hU0)
        have cc := HY0.out.rq.c2
        have ff := HY0.out.rq.f 2
        clear hT0 hU0
        have HG1 := Lib.hid (HY0.out.store hqb (HY0.out.rq.set2 v0))
        go_upto_region 15 with fail
        clear cc ff
        generalize Y0.setCell ⟨qb, 2, none⟩ (.int .u64 v0) = X1 at HG1 ⊢
        obtain ⟨s1, hs1⟩ : ∃ s, get1 (startR zs) .fd = s := ⟨_, rfl⟩
        have HG1 := Lib.hid (show GS w qb X1 s1 from by rw [← hs1, HX0.out]; exact HG1.out)
        have HSS1 := Lib.hid hs1
        clear hs1
        have HC1 := Lib.hid (rtext_any (w.heap.size + 1) (s1).zs (s1).torn 128 (by decide) X1 w.heap.size (by omega) HG1.out.tape)
        have HX1 := Lib.hid (show get1 (s1) .data = ⟨(stepT (s1).zs (s1).torn (txtS (s1).zs 128)).1, (stepT (s1).zs (s1).torn (txtS (s1).zs 128)).2, { (s1).r with data := txtR (s1).zs (s1).torn 128 }⟩ from rfl)
        generalize txtR (s1).zs (s1).torn 128 = v1 at HC1 HX1
        generalize stepT (s1).zs (s1).torn (txtS (s1).zs 128) = st1 at HC1 HX1
        go_wp2_with fail
        refine HC1.out.mono ?_
        rintro e Y1 ⟨rfl, hT1, hU1⟩
        have HY1 := Lib.hid (HG1.out.read hqb hT1 hU1)
        have cc := HY1.out.rq.c7
        have ff := HY1.out.rq.f 7
        clear hT1 hU1
        have HG2 := Lib.hid (HY1.out.store hqb (HY1.out.rq.set7 v1))
        go_wp2_with fail
        clear cc ff
        go_meet
        refine ⟨rfl, get1 s1 .data, by rw [HX1.out]; exact HG2.out, fun _ => ?_, fun h => ?_⟩
        · unfold readS; rw [HK.out, ← HSS1.out]; rfl
        · rw [HK.out] at h; exact absurd h (by decide)
      · clear hk
        have HC0 := Lib.hid (rnumber_any (w.heap.size + 1) (startR zs).zs (startR zs).torn X0 w.heap.size (by omega) HG0.out.tape)
        have HX0 := Lib.hid (show get1 (startR zs) .fd = ⟨(stepT (startR zs).zs (startR zs).torn (numS (startR zs).zs)).1, (stepT (startR zs).zs (startR zs).torn (numS (startR zs).zs)).2, { (startR zs).r with fd := numR (startR zs).zs (startR zs).torn }⟩ from rfl)
        generalize numR (startR zs).zs (startR zs).torn = v0 at HC0 HX0
        generalize stepT (startR zs).zs (startR zs).torn (numS (startR zs).zs) = st0 at HC0 HX0
        go_wp2_with fail
        refine HC0.out.mono ?_
        rintro e Y0 ⟨rfl, hT0, hU0⟩
        have HY0 := Lib.hid (HG0.out.read hqb hT0 hU0)
        have cc := HY0.out.rq.c2
        have ff := HY0.out.rq.f 2
        clear hT0 hU0
        have HG1 := Lib.hid (HY0.out.store hqb (HY0.out.rq.set2 v0))
        go_upto_region 19 with fail
        clear cc ff
        generalize Y0.setCell ⟨qb, 2, none⟩ (.int .u64 v0) = X1 at HG1 ⊢
        obtain ⟨s1, hs1⟩ : ∃ s, get1 (startR zs) .fd = s := ⟨_, rfl⟩
        have HG1 := Lib.hid (show GS w qb X1 s1 from by rw [← hs1, HX0.out]; exact HG1.out)
        have HSS1 := Lib.hid hs1
        clear hs1
        have HC1 := Lib.hid (rnumber_any (w.heap.size + 1) (s1).zs (s1).torn X1 w.heap.size (by omega) HG1.out.tape)
        have HX1 := Lib.hid (show get1 (s1) .pos = ⟨(stepT (s1).zs (s1).torn (numS (s1).zs)).1, (stepT (s1).zs (s1).torn (numS (s1).zs)).2, { (s1).r with pos := numR (s1).zs (s1).torn }⟩ from rfl)
        generalize numR (s1).zs (s1).torn = v1 at HC1 HX1
        generalize stepT (s1).zs (s1).torn (numS (s1).zs) = st1 at HC1 HX1
        go_wp2_with fail
        refine HC1.out.mono ?_
        rintro e Y1 ⟨rfl, hT1, hU1⟩
        have HY1 := Lib.hid (HG1.out.read hqb hT1 hU1)
        have cc := HY1.out.rq.c3
        have ff := HY1.out.rq.f 3
        clear hT1 hU1
        have HG2 := Lib.hid (HY1.out.store hqb (HY1.out.rq.set3 v1))
        go_wp2_with fail
        clear cc ff
        go_meet
        refine ⟨rfl, get1 s1 .pos, by rw [HX1.out]; exact HG2.out, fun _ => ?_, fun h => ?_⟩
        · unfold readS; rw [HK.out, ← HSS1.out]; rfl
        · rw [HK.out] at h; exact absurd h (by decide)
      · clear hk
        have HC0 := Lib.hid (rnumber_any (w.heap.size + 1) (startR zs).zs (startR zs).torn X0 w.heap.size (by omega) HG0.out.tape)
        have HX0 := Lib.hid (show get1 (startR zs) .fd = ⟨(stepT (startR zs).zs (startR zs).torn (numS (startR zs).zs)).1, (stepT (startR zs).zs (startR zs).torn (numS (startR zs).zs)).2, { (startR zs).r with fd := numR (startR zs).zs (startR zs).torn }⟩ from rfl)
        generalize numR (startR zs).zs (startR zs).torn = v0 at HC0 HX0
        generalize stepT (startR zs).zs (startR zs).torn (numS (startR zs).zs) = st0 at HC0 HX0
        go_wp2_with fail
        refine HC0.out.mono ?_
        rintro e Y0 ⟨rfl, hT0, hU0⟩
        have HY0 := Lib.hid (HG0.out.read hqb hT0 hU0)
        have cc := HY0.out.rq.c2
        have ff := HY0.out.rq.f 2
        clear hT0 hU0
        have HG1 := Lib.hid (HY0.out.store hqb (HY0.out.rq.set2 v0))
        go_upto_region 19 with fail
        clear cc ff
        generalize Y0.setCell ⟨qb, 2, none⟩ (.int .u64 v0) = X1 at HG1 ⊢
        obtain ⟨s1, hs1⟩ : ∃ s, get1 (startR zs) .fd = s := ⟨_, rfl⟩
        have HG1 := Lib.hid (show GS w qb X1 s1 from by rw [← hs1, HX0.out]; exact HG1.out)
        have HSS1 := Lib.hid hs1
        clear hs1
        have HC1 := Lib.hid (rnumber_any (w.heap.size + 1) (s1).zs (s1).torn X1 w.heap.size (by omega) HG1.out.tape)
        have HX1 := Lib.hid (show get1 (s1) .pos = ⟨(stepT (s1).zs (s1).torn (numS (s1).zs)).1, (stepT (s1).zs (s1).torn (numS (s1).zs)).2, { (s1).r with pos := numR (s1).zs (s1).torn }⟩ from rfl)
        generalize numR (s1).zs (s1).torn = v1 at HC1 HX1
        generalize stepT (s1).zs (s1).torn (numS (s1).zs) = st1 at HC1 HX1
        go_wp2_with fail
        refine HC1.out.mono ?_
        rintro e Y1 ⟨rfl, hT1, hU1⟩
        have HY1 := Lib.hid (HG1.out.read hqb hT1 hU1)
        have cc := HY1.out.rq.c3
        have ff := HY1.out.rq.f 3
        clear hT1 hU1
        have HG2 := Lib.hid (HY1.out.store hqb (HY1.out.rq.set3 v1))
        go_wp2_with fail
        clear cc ff
        go_meet
        refine ⟨rfl, get1 s1 .pos, by rw [HX1.out]; exact HG2.out, fun _ => ?_, fun h => ?_⟩
        · unfold readS; rw [HK.out, ← HSS1.out]; rfl
        · rw [HK.out] at h; exact absurd h (by decide)
      · clear hk
        have HC0 := Lib.hid (rtext_any (w.heap.size + 1) (startR zs).zs (startR zs).torn 200 (by decide) X0 w.heap.size (by omega) HG0.out.tape)
        have HX0 := Lib.hid (show get1 (startR zs) .path = ⟨(stepT (startR zs).zs (startR zs).torn (txtS (startR zs).zs 200)).1, (stepT (startR zs).zs (startR zs).torn (txtS (startR zs).zs 200)).2, { (startR zs).r with path := txtR (startR zs).zs (startR zs).torn 200 }⟩ from rfl)
        generalize txtR (startR zs).zs (startR zs).torn 200 = v0 at HC0 HX0
        generalize stepT (startR zs).zs (startR zs).torn (txtS (startR zs).zs 200) = st0 at HC0 HX0
        go_wp2_with fail
        refine HC0.out.mono ?_
        rintro e Y0 ⟨rfl, hT0, hU0⟩
        have HY0 := Lib.hid (HG0.out.read hqb hT0 hU0)
        have cc := HY0.out.rq.c5
        have ff := HY0.out.rq.f 5
        clear hT0 hU0
        have HG1 := Lib.hid (HY0.out.store hqb (HY0.out.rq.set5 v0))
        go_wp2_with fail
        clear cc ff
        go_meet
        refine ⟨rfl, get1 (startR zs) .path, by rw [HX0.out]; exact HG1.out, fun _ => ?_, fun h => ?_⟩
        · unfold readS; rw [HK.out]; rfl
        · rw [HK.out] at h; exact absurd h (by decide)
      · clear hk
        have HC0 := Lib.hid (rtext_any (w.heap.size + 1) (startR zs).zs (startR zs).torn 200 (by decide) X0 w.heap.size (by omega) HG0.out.tape)
        have HX0 := Lib.hid (show get1 (startR zs) .path = ⟨(stepT (startR zs).zs (startR zs).torn (txtS (startR zs).zs 200)).1, (stepT (startR zs).zs (startR zs).torn (txtS (startR zs).zs 200)).2, { (startR zs).r with path := txtR (startR zs).zs (startR zs).torn 200 }⟩ from rfl)
        generalize txtR (startR zs).zs (startR zs).torn 200 = v0 at HC0 HX0
        generalize stepT (startR zs).zs (startR zs).torn (txtS (startR zs).zs 200) = st0 at HC0 HX0
        go_wp2_with fail
        refine HC0.out.mono ?_
        rintro e Y0 ⟨rfl, hT0, hU0⟩
        have HY0 := Lib.hid (HG0.out.read hqb hT0 hU0)
        have cc := HY0.out.rq.c5
        have ff := HY0.out.rq.f 5
        clear hT0 hU0
        have HG1 := Lib.hid (HY0.out.store hqb (HY0.out.rq.set5 v0))
        go_wp2_with fail
        clear cc ff
        go_meet
        refine ⟨rfl, get1 (startR zs) .path, by rw [HX0.out]; exact HG1.out, fun _ => ?_, fun h => ?_⟩
        · unfold readS; rw [HK.out]; rfl
        · rw [HK.out] at h; exact absurd h (by decide)
      · clear hk
        have HC0 := Lib.hid (rtext_any (w.heap.size + 1) (startR zs).zs (startR zs).torn 200 (by decide) X0 w.heap.size (by omega) HG0.out.tape)
        have HX0 := Lib.hid (show get1 (startR zs) .path = ⟨(stepT (startR zs).zs (startR zs).torn (txtS (startR zs).zs 200)).1, (stepT (startR zs).zs (startR zs).torn (txtS (startR zs).zs 200)).2, { (startR zs).r with path := txtR (startR zs).zs (startR zs).torn 200 }⟩ from rfl)
        generalize txtR (startR zs).zs (startR zs).torn 200 = v0 at HC0 HX0
        generalize stepT (startR zs).zs (startR zs).torn (txtS (startR zs).zs 200) = st0 at HC0 HX0
        go_wp2_with fail
        refine HC0.out.mono ?_
        rintro e Y0 ⟨rfl, hT0, hU0⟩
        have HY0 := Lib.hid (HG0.out.read hqb hT0 hU0)
        have cc := HY0.out.rq.c5
        have ff := HY0.out.rq.f 5
        clear hT0 hU0
        have HG1 := Lib.hid (HY0.out.store hqb (HY0.out.rq.set5 v0))
        go_wp2_with fail
        clear cc ff
        go_meet
        refine ⟨rfl, get1 (startR zs) .path, by rw [HX0.out]; exact HG1.out, fun _ => ?_, fun h => ?_⟩
        · unfold readS; rw [HK.out]; rfl
        · rw [HK.out] at h; exact absurd h (by decide)
      · clear hk
        have HC0 := Lib.hid (rtext_any (w.heap.size + 1) (startR zs).zs (startR zs).torn 200 (by decide) X0 w.heap.size (by omega) HG0.out.tape)
        have HX0 := Lib.hid (show get1 (startR zs) .path = ⟨(stepT (startR zs).zs (startR zs).torn (txtS (startR zs).zs 200)).1, (stepT (startR zs).zs (startR zs).torn (txtS (startR zs).zs 200)).2, { (startR zs).r with path := txtR (startR zs).zs (startR zs).torn 200 }⟩ from rfl)
        generalize txtR (startR zs).zs (startR zs).torn 200 = v0 at HC0 HX0
        generalize stepT (startR zs).zs (startR zs).torn (txtS (startR zs).zs 200) = st0 at HC0 HX0
        go_wp2_with fail
        refine HC0.out.mono ?_
        rintro e Y0 ⟨rfl, hT0, hU0⟩
        have HY0 := Lib.hid (HG0.out.read hqb hT0 hU0)
        have cc := HY0.out.rq.c5
        have ff := HY0.out.rq.f 5
        clear hT0 hU0
        have HG1 := Lib.hid (HY0.out.store hqb (HY0.out.rq.set5 v0))
        go_upto_region 23 with fail
        clear cc ff
        generalize Y0.setCell ⟨qb, 5, none⟩ (.string v0) = X1 at HG1 ⊢
        obtain ⟨s1, hs1⟩ : ∃ s, get1 (startR zs) .path = s := ⟨_, rfl⟩
        have HG1 := Lib.hid (show GS w qb X1 s1 from by rw [← hs1, HX0.out]; exact HG1.out)
        have HSS1 := Lib.hid hs1
        clear hs1
        have HC1 := Lib.hid (rtext_any (w.heap.size + 1) (s1).zs (s1).torn 200 (by decide) X1 w.heap.size (by omega) HG1.out.tape)
        have HX1 := Lib.hid (show get1 (s1) .dst = ⟨(stepT (s1).zs (s1).torn (txtS (s1).zs 200)).1, (stepT (s1).zs (s1).torn (txtS (s1).zs 200)).2, { (s1).r with dst := txtR (s1).zs (s1).torn 200 }⟩ from rfl)
        generalize txtR (s1).zs (s1).torn 200 = v1 at HC1 HX1
        generalize stepT (s1).zs (s1).torn (txtS (s1).zs 200) = st1 at HC1 HX1
        go_wp2_with fail
        refine HC1.out.mono ?_
        rintro e Y1 ⟨rfl, hT1, hU1⟩
        have HY1 := Lib.hid (HG1.out.read hqb hT1 hU1)
        have cc := HY1.out.rq.c6
        have ff := HY1.out.rq.f 6
        clear hT1 hU1
        have HG2 := Lib.hid (HY1.out.store hqb (HY1.out.rq.set6 v1))
        go_wp2_with fail
        clear cc ff
        go_meet
        refine ⟨rfl, get1 s1 .dst, by rw [HX1.out]; exact HG2.out, fun _ => ?_, fun h => ?_⟩
        · unfold readS; rw [HK.out, ← HSS1.out]; rfl
        · rw [HK.out] at h; exact absurd h (by decide)
      · clear hk
        have HC0 := Lib.hid (rtext_any (w.heap.size + 1) (startR zs).zs (startR zs).torn 200 (by decide) X0 w.heap.size (by omega) HG0.out.tape)
        have HX0 := Lib.hid (show get1 (startR zs) .path = ⟨(stepT (startR zs).zs (startR zs).torn (txtS (startR zs).zs 200)).1, (stepT (startR zs).zs (startR zs).torn (txtS (startR zs).zs 200)).2, { (startR zs).r with path := txtR (startR zs).zs (startR zs).torn 200 }⟩ from rfl)
        generalize txtR (startR zs).zs (startR zs).torn 200 = v0 at HC0 HX0
        generalize stepT (startR zs).zs (startR zs).torn (txtS (startR zs).zs 200) = st0 at HC0 HX0
        go_wp2_with fail
        refine HC0.out.mono ?_
        rintro e Y0 ⟨rfl, hT0, hU0⟩
        have HY0 := Lib.hid (HG0.out.read hqb hT0 hU0)
        have cc := HY0.out.rq.c5
        have ff := HY0.out.rq.f 5
        clear hT0 hU0
        have HG1 := Lib.hid (HY0.out.store hqb (HY0.out.rq.set5 v0))
        go_wp2_with fail
        clear cc ff
        go_meet
        refine ⟨rfl, get1 (startR zs) .path, by rw [HX0.out]; exact HG1.out, fun _ => ?_, fun h => ?_⟩
        · unfold readS; rw [HK.out]; rfl
        · rw [HK.out] at h; exact absurd h (by decide)
      · clear hk
        have HC0 := Lib.hid (rtext_any (w.heap.size + 1) (startR zs).zs (startR zs).torn 200 (by decide) X0 w.heap.size (by omega) HG0.out.tape)
        have HX0 := Lib.hid (show get1 (startR zs) .path = ⟨(stepT (startR zs).zs (startR zs).torn (txtS (startR zs).zs 200)).1, (stepT (startR zs).zs (startR zs).torn (txtS (startR zs).zs 200)).2, { (startR zs).r with path := txtR (startR zs).zs (startR zs).torn 200 }⟩ from rfl)
        generalize txtR (startR zs).zs (startR zs).torn 200 = v0 at HC0 HX0
        generalize stepT (startR zs).zs (startR zs).torn (txtS (startR zs).zs 200) = st0 at HC0 HX0
        go_wp2_with fail
        refine HC0.out.mono ?_
        rintro e Y0 ⟨rfl, hT0, hU0⟩
        have HY0 := Lib.hid (HG0.out.read hqb hT0 hU0)
        have cc := HY0.out.rq.c5
        have ff := HY0.out.rq.f 5
        clear hT0 hU0
        have HG1 := Lib.hid (HY0.out.store hqb (HY0.out.rq.set5 v0))
        go_upto_region 23 with fail
        clear cc ff
        generalize Y0.setCell ⟨qb, 5, none⟩ (.string v0) = X1 at HG1 ⊢
        obtain ⟨s1, hs1⟩ : ∃ s, get1 (startR zs) .path = s := ⟨_, rfl⟩
        have HG1 := Lib.hid (show GS w qb X1 s1 from by rw [← hs1, HX0.out]; exact HG1.out)
        have HSS1 := Lib.hid hs1
        clear hs1
        have HC1 := Lib.hid (rtext_any (w.heap.size + 1) (s1).zs (s1).torn 200 (by decide) X1 w.heap.size (by omega) HG1.out.tape)
        have HX1 := Lib.hid (show get1 (s1) .dst = ⟨(stepT (s1).zs (s1).torn (txtS (s1).zs 200)).1, (stepT (s1).zs (s1).torn (txtS (s1).zs 200)).2, { (s1).r with dst := txtR (s1).zs (s1).torn 200 }⟩ from rfl)
        generalize txtR (s1).zs (s1).torn 200 = v1 at HC1 HX1
        generalize stepT (s1).zs (s1).torn (txtS (s1).zs 200) = st1 at HC1 HX1
        go_wp2_with fail
        refine HC1.out.mono ?_
        rintro e Y1 ⟨rfl, hT1, hU1⟩
        have HY1 := Lib.hid (HG1.out.read hqb hT1 hU1)
        have cc := HY1.out.rq.c6
        have ff := HY1.out.rq.f 6
        clear hT1 hU1
        have HG2 := Lib.hid (HY1.out.store hqb (HY1.out.rq.set6 v1))
        go_wp2_with fail
        clear cc ff
        go_meet
        refine ⟨rfl, get1 s1 .dst, by rw [HX1.out]; exact HG2.out, fun _ => ?_, fun h => ?_⟩
        · unfold readS; rw [HK.out, ← HSS1.out]; rfl
        · rw [HK.out] at h; exact absurd h (by decide)
      · clear hk
        have HC0 := Lib.hid (rtext_any (w.heap.size + 1) (startR zs).zs (startR zs).torn 200 (by decide) X0 w.heap.size (by omega) HG0.out.tape)
        have HX0 := Lib.hid (show get1 (startR zs) .path = ⟨(stepT (startR zs).zs (startR zs).torn (txtS (startR zs).zs 200)).1, (stepT (startR zs).zs (startR zs).torn (txtS (startR zs).zs 200)).2, { (startR zs).r with path := txtR (startR zs).zs (startR zs).torn 200 }⟩ from rfl)
        generalize txtR (startR zs).zs (startR zs).torn 200 = v0 at HC0 HX0
        generalize stepT (startR zs).zs (startR zs).torn (txtS (startR zs).zs 200) = st0 at HC0 HX0
        go_wp2_with fail
        refine HC0.out.mono ?_
        rintro e Y0 ⟨rfl, hT0, hU0⟩
        have HY0 := Lib.hid (HG0.out.read hqb hT0 hU0)
        have cc := HY0.out.rq.c5
        have ff := HY0.out.rq.f 5
        clear hT0 hU0
        have HG1 := Lib.hid (HY0.out.store hqb (HY0.out.rq.set5 v0))
        go_upto_region 26 with fail
        clear cc ff
        generalize Y0.setCell ⟨qb, 5, none⟩ (.string v0) = X1 at HG1 ⊢
        obtain ⟨s1, hs1⟩ : ∃ s, get1 (startR zs) .path = s := ⟨_, rfl⟩
        have HG1 := Lib.hid (show GS w qb X1 s1 from by rw [← hs1, HX0.out]; exact HG1.out)
        have HSS1 := Lib.hid hs1
        clear hs1
        have HC1 := Lib.hid (rnumber_any (w.heap.size + 1) (s1).zs (s1).torn X1 w.heap.size (by omega) HG1.out.tape)
        have HX1 := Lib.hid (show get1 (s1) .pos = ⟨(stepT (s1).zs (s1).torn (numS (s1).zs)).1, (stepT (s1).zs (s1).torn (numS (s1).zs)).2, { (s1).r with pos := numR (s1).zs (s1).torn }⟩ from rfl)
        generalize numR (s1).zs (s1).torn = v1 at HC1 HX1
        generalize stepT (s1).zs (s1).torn (numS (s1).zs) = st1 at HC1 HX1
        go_wp2_with fail
        refine HC1.out.mono ?_
        rintro e Y1 ⟨rfl, hT1, hU1⟩
        have HY1 := Lib.hid (HG1.out.read hqb hT1 hU1)
        have cc := HY1.out.rq.c3
        have ff := HY1.out.rq.f 3
        clear hT1 hU1
        have HG2 := Lib.hid (HY1.out.store hqb (HY1.out.rq.set3 v1))
        go_wp2_with fail
        clear cc ff
        go_meet
        refine ⟨rfl, get1 s1 .pos, by rw [HX1.out]; exact HG2.out, fun _ => ?_, fun h => ?_⟩
        · unfold readS; rw [HK.out, ← HSS1.out]; rfl
        · rw [HK.out] at h; exact absurd h (by decide)
    · have hk2 : known k0 = false := by simpa using hk
      have hn : ¬ (1 ≤ k0 ∧ k0 ≤ 13) := by rintro ⟨q1, q2⟩; simp [known, q1, q2] at hk2
      have d1 : (k0 == 1) = false := by rw [beq_eq_false_iff_ne]; omega
      have d2 : (k0 == 2) = false := by rw [beq_eq_false_iff_ne]; omega
      have d3 : (k0 == 3) = false := by rw [beq_eq_false_iff_ne]; omega
      have d4 : (k0 == 4) = false := by rw [beq_eq_false_iff_ne]; omega
      have d5 : (k0 == 5) = false := by rw [beq_eq_false_iff_ne]; omega
      have d6 : (k0 == 6) = false := by rw [beq_eq_false_iff_ne]; omega
      have d7 : (k0 == 7) = false := by rw [beq_eq_false_iff_ne]; omega
      have d8 : (k0 == 8) = false := by rw [beq_eq_false_iff_ne]; omega
      have d9 : (k0 == 9) = false := by rw [beq_eq_false_iff_ne]; omega
      have d10 : (k0 == 10) = false := by rw [beq_eq_false_iff_ne]; omega
      have d11 : (k0 == 11) = false := by rw [beq_eq_false_iff_ne]; omega
      have d12 : (k0 == 12) = false := by rw [beq_eq_false_iff_ne]; omega
      have d13 : (k0 == 13) = false := by rw [beq_eq_false_iff_ne]; omega
      have HUN := Lib.hid hk2
      clear hn hk hk2
      have HC0 := Lib.hid (rtext_any (w.heap.size + 1) (startR zs).zs (startR zs).torn 200 (by decide) X0 w.heap.size (by omega) HG0.out.tape)
      have HX0 := Lib.hid (show get1 (startR zs) .path = ⟨(stepT (startR zs).zs (startR zs).torn (txtS (startR zs).zs 200)).1, (stepT (startR zs).zs (startR zs).torn (txtS (startR zs).zs 200)).2, { (startR zs).r with path := txtR (startR zs).zs (startR zs).torn 200 }⟩ from rfl)
      generalize txtR (startR zs).zs (startR zs).torn 200 = v0 at HC0 HX0
      generalize stepT (startR zs).zs (startR zs).torn (txtS (startR zs).zs 200) = st0 at HC0 HX0
      go_wp2_with fail
      refine HC0.out.mono ?_
      rintro e Y0 ⟨rfl, hT0, hU0⟩
      have HY0 := Lib.hid (HG0.out.read hqb hT0 hU0)
      have cc := HY0.out.rq.c5
      have ff := HY0.out.rq.f 5
      clear hT0 hU0
      have HG1 := Lib.hid (HY0.out.store hqb (HY0.out.rq.set5 v0))
      go_wp2_with fail
      clear cc ff
      go_meet
      refine ⟨rfl, _, HG1.out, fun h => ?_, fun _ => ?_⟩
      · rw [HK.out, HUN.out] at h; cases h
      · rfl
  case rest =>
  obtain ⟨rfl, s, hG, hk1, hk2⟩ := hcut
  have HKN := Lib.hid (show known (kindR zs) = true → s = readS zs from hk1)
  have HOK := Lib.hid (show okR zs s = getOk zs ∧ (okR zs s = true → s.r = (readS zs).r) ∧ (mayR s.r = true → smallRq s.r) from by
    by_cases hk : known (kindR zs) = true
    · rw [hk1 hk]
      exact ⟨getR_eq (readS_small HZ.out).ok (kind_readS zs), fun _ => rfl, fun _ => readS_small HZ.out⟩
    · have hkf : known (kindR zs) = false := by simpa using hk
      have hm : mayR s.r = false := mayR_unknown (by rw [hk2 hkf]; exact hkf)
      have ho : okR zs s = false := by unfold okR; rw [hm]; simp
      refine ⟨by rw [ho, get_unknown hkf], fun h => ?_, fun h => ?_⟩
      · rw [ho] at h; cases h
      · rw [hm] at h; cases h)
  have HOR := Lib.hid (show okR zs s = (!s.torn && decide (s.zs.length = 0) && mayR s.r && decide (putL s.r = zs)) from rfl)
  have HBY := Lib.hid (show mayR s.r = true → ∀ x ∈ putL s.r, isByte x from fun h => putL_byte (HOK.out.2.2 h).ok)
  have HPE := Lib.hid (show mayR s.r = true → putQ s.r = putL s.r from fun h => if_pos (by rw [may_eq (HOK.out.2.2 h).ok]; exact h))
  clear hk1 hk2
  obtain ⟨ta, tcap, ts, _, _⟩ := hG.tape.s
  have tc := hG.tape.c1
  obtain ⟨n, hn⟩ : ∃ n, s.zs.length = n := ⟨_, rfl⟩
  obtain ⟨torn, ht⟩ : ∃ torn, s.torn = torn := ⟨_, rfl⟩
  obtain ⟨q, hq⟩ : ∃ q, s.r = q := ⟨_, rfl⟩
  obtain ⟨mm, hm⟩ : ∃ mm, mayR q = mm := ⟨_, rfl⟩
  rw [hn] at ts HOR
  rw [ht] at tc HOR
  rw [hq] at HOR HOK HBY HPE
  rw [hm] at HOR HOK HBY HPE
  have HRQ := Lib.hid (show RqAt wc qb q from by rw [← hq]; exact hG.rq)
  have HBX := Lib.hid (show RqAt wc w.heap.size ⟨0, 0, 0, 0, 0, ⟨#[]⟩, ⟨#[]⟩, ⟨#[]⟩⟩ from hG.box)
  have HNC := Lib.hid hG.nw
  have HTS := Lib.hid ts
  have HTC := Lib.hid tc
  have HMC := Lib.hid (fun W => rmay_any q W)
  rw [hm] at HMC
  unfold rqV at HMC
  have HZR := Lib.hid (show getOk zs = false → getQ zs = zeroRq ∧ getE zs = 4 from get_no)
  have HYR := Lib.hid (show getOk zs = true → getQ zs = (readS zs).r ∧ getE zs = 0 from fun h => ⟨if_pos h, if_pos h⟩)
  have hqb2 : w.heap.size ≠ qb := by omega
  have hqb3 : w.heap.size + 1 ≠ qb := by omega
  clear hG hn ht hq hm hk0 c0 ts tc
  cases torn with
  | true =>
    have HF := Lib.hid (show okR zs s = false from by rw [HOR.out]; rfl)
    have hn0 : True := trivial
    go_wp2_with fail
    refine wp_region_noPanic ?_
    refine wp_region_held_drew (S := (fun w' => RqAt w' qb q ∧ w'.cell? ⟨w.heap.size + 1, 0, none⟩ = some (.slice ta n tcap) ∧ w'.cell? ⟨w.heap.size + 1, 1, none⟩ = some (.bool true) ∧ Nw wc w')) (by kernel_rfl) ?_ (fun hHeld => ?_)
    · exact ⟨HRQ.out.nw Nw.refl.drew, HTS.out, HTC.out, Nw.refl.drew⟩
    refine takeD (i := 0) (v := ?_) 74 rfl rfl ?_ ?_ ?_ (fun _ _ _ h => h) ?_ (by assumption) ?_
    rotate_left
    · kernel_rfl
    · kernel_rfl
    · kernel_rfl
    · refine Or.inl (And.intro ?_ ?_)
      · rfl
      · intro w hSw
        obtain ⟨⟨c0, c1, c2, c3, c4, c5, c6, c7, _⟩, e0, e1, eN⟩ := hSw
        have hcv0 := HCV.out w (HNC.out.trans eN)
        first | (go_simp; done) | (go_simp; with_reducible rfl)
    simp only [List.setIfInBounds_toArray, List.set_cons_zero, List.set_cons_succ]
    refine takeD (i := 1) (v := ?_) 75 rfl rfl ?_ ?_ ?_ (fun _ _ _ h => h) ?_ (by assumption) ?_
    rotate_left
    · kernel_rfl
    · kernel_rfl
    · kernel_rfl
    · refine Or.inl (And.intro ?_ ?_)
      · rfl
      · intro w hSw
        obtain ⟨⟨c0, c1, c2, c3, c4, c5, c6, c7, _⟩, e0, e1, eN⟩ := hSw
        have hcv0 := HCV.out w (HNC.out.trans eN)
        first | (go_simp; done) | (go_simp; with_reducible rfl)
    simp only [List.setIfInBounds_toArray, List.set_cons_zero, List.set_cons_succ]
    refine takeD (i := 2) (v := ?_) 76 rfl rfl ?_ ?_ ?_ (fun _ _ _ h => h) ?_ (by assumption) ?_
    rotate_left
    · kernel_rfl
    · kernel_rfl
    · kernel_rfl
    · refine Or.inl (And.intro ?_ ?_)
      · rfl
      · intro w hSw
        obtain ⟨⟨c0, c1, c2, c3, c4, c5, c6, c7, _⟩, e0, e1, eN⟩ := hSw
        have hcv0 := HCV.out w (HNC.out.trans eN)
        first | (go_simp; done) | (go_simp; with_reducible rfl)
    simp only [List.setIfInBounds_toArray, List.set_cons_zero, List.set_cons_succ]
    refine takeD (i := 3) (v := ?_) 77 rfl rfl ?_ ?_ ?_ (fun _ _ _ h => h) ?_ (by assumption) ?_
    rotate_left
    · kernel_rfl
    · kernel_rfl
    · kernel_rfl
    · refine Or.inl (And.intro ?_ ?_)
      · rfl
      · intro w hSw
        obtain ⟨⟨c0, c1, c2, c3, c4, c5, c6, c7, _⟩, e0, e1, eN⟩ := hSw
        have hcv0 := HCV.out w (HNC.out.trans eN)
        first | (go_simp; done) | (go_simp; with_reducible rfl)
    simp only [List.setIfInBounds_toArray, List.set_cons_zero, List.set_cons_succ]
    refine takeD (i := 4) (v := ?_) 78 rfl rfl ?_ ?_ ?_ (fun _ _ _ h => h) ?_ (by assumption) ?_
    rotate_left
    · kernel_rfl
    · kernel_rfl
    · kernel_rfl
    · refine Or.inl (And.intro ?_ ?_)
      · rfl
      · intro w hSw
        obtain ⟨⟨c0, c1, c2, c3, c4, c5, c6, c7, _⟩, e0, e1, eN⟩ := hSw
        have hcv0 := HCV.out w (HNC.out.trans eN)
        first | (go_simp; done) | (go_simp; with_reducible rfl)
    simp only [List.setIfInBounds_toArray, List.set_cons_zero, List.set_cons_succ]
    refine takeD (i := 5) (v := undef) 79 rfl rfl ?_ ?_ ?_ (fun _ _ _ h => h) (Or.inr (And.intro ?_ rfl)) (by assumption) ?_
    · kernel_rfl
    · kernel_rfl
    · kernel_rfl
    · rfl
    simp only [List.setIfInBounds_toArray, List.set_cons_zero, List.set_cons_succ]
    refine takeD (i := 6) (v := undef) 80 rfl rfl ?_ ?_ ?_ (fun _ _ _ h => h) (Or.inr (And.intro ?_ rfl)) (by assumption) ?_
    · kernel_rfl
    · kernel_rfl
    · kernel_rfl
    · rfl
    simp only [List.setIfInBounds_toArray, List.set_cons_zero, List.set_cons_succ]
    refine takeD (i := 7) (v := undef) 81 rfl rfl ?_ ?_ ?_ (fun _ _ _ h => h) (Or.inr (And.intro ?_ rfl)) (by assumption) ?_
    · kernel_rfl
    · kernel_rfl
    · kernel_rfl
    · rfl
    simp only [List.setIfInBounds_toArray, List.set_cons_zero, List.set_cons_succ]
    refine takeD (i := 8) (v := undef) 82 rfl rfl ?_ ?_ ?_ (fun _ _ _ h => h) (Or.inr (And.intro ?_ rfl)) (by assumption) ?_
    · kernel_rfl
    · kernel_rfl
    · kernel_rfl
    · rfl
    simp only [List.setIfInBounds_toArray, List.set_cons_zero, List.set_cons_succ]
    refine takeD (i := 9) (v := undef) 83 rfl rfl ?_ ?_ ?_ (fun _ _ _ h => h) (Or.inr (And.intro ?_ rfl)) (by assumption) ?_
    · kernel_rfl
    · kernel_rfl
    · kernel_rfl
    · rfl
    simp only [List.setIfInBounds_toArray, List.set_cons_zero, List.set_cons_succ]
    refine takeD (i := 10) (v := undef) 84 rfl rfl ?_ ?_ ?_ (fun _ _ _ h => h) (Or.inr (And.intro ?_ rfl)) (by assumption) ?_
    · kernel_rfl
    · kernel_rfl
    · kernel_rfl
    · rfl
    simp only [List.setIfInBounds_toArray, List.set_cons_zero, List.set_cons_succ]
    refine takeD (i := 11) (v := ?_) 85 rfl rfl ?_ ?_ ?_ (fun _ _ _ h => h) ?_ (by assumption) ?_
    rotate_left
    · kernel_rfl
    · kernel_rfl
    · kernel_rfl
    · refine Or.inl (And.intro ?_ ?_)
      · rfl
      · intro w hSw
        obtain ⟨⟨c0, c1, c2, c3, c4, c5, c6, c7, _⟩, e0, e1, eN⟩ := hSw
        have hcv0 := HCV.out w (HNC.out.trans eN)
        first | (go_simp; done) | (go_simp; with_reducible rfl)
    simp only [List.setIfInBounds_toArray, List.set_cons_zero, List.set_cons_succ]
    refine takeD (i := 12) (v := ?_) 86 rfl rfl ?_ ?_ ?_ (fun _ _ _ h => h) ?_ (by assumption) ?_
    rotate_left
    · kernel_rfl
    · kernel_rfl
    · kernel_rfl
    · refine Or.inl (And.intro ?_ ?_)
      · rfl
      · intro w hSw
        obtain ⟨⟨c0, c1, c2, c3, c4, c5, c6, c7, _⟩, e0, e1, eN⟩ := hSw
        have hcv0 := HCV.out w (HNC.out.trans eN)
        first | (go_simp; done) | (go_simp; with_reducible rfl)
    simp only [List.setIfInBounds_toArray, List.set_cons_zero, List.set_cons_succ]
    refine takeD (i := 13) (v := undef) 87 rfl rfl ?_ ?_ ?_ (fun _ _ _ h => h) (Or.inr (And.intro ?_ rfl)) (by assumption) ?_
    · kernel_rfl
    · kernel_rfl
    · kernel_rfl
    · rfl
    simp only [List.setIfInBounds_toArray, List.set_cons_zero, List.set_cons_succ]
    refine wpAnyH_ready (rs := [14]) (by kernel_rfl) (by simp) ?_
    refine AllReadyH.cons rfl (fun K hK => ?_) AllReadyH.nil
    go_simp
    refine hK.out _ _ ?_ (fun hHeld2 => ?_)
    · exact hHeld
    have hHeld := hHeld2
    clear hHeld2 hK K
    refine takeD (i := 15) (v := undef) 89 rfl rfl ?_ ?_ ?_ (fun _ _ _ h => h) (Or.inr (And.intro ?_ rfl)) (by assumption) ?_
    · kernel_rfl
    · kernel_rfl
    · kernel_rfl
    · rfl
    simp only [List.setIfInBounds_toArray, List.set_cons_zero, List.set_cons_succ]
    refine takeD (i := 16) (v := ?_) 90 rfl rfl ?_ ?_ ?_ (fun _ _ _ h => h) ?_ (by assumption) ?_
    rotate_left
    · kernel_rfl
    · kernel_rfl
    · kernel_rfl
    · refine Or.inl (And.intro ?_ ?_)
      · rfl
      · intro w hSw
        obtain ⟨⟨c0, c1, c2, c3, c4, c5, c6, c7, _⟩, e0, e1, eN⟩ := hSw
        have hcv0 := HCV.out w (HNC.out.trans eN)
        first | (go_simp; done) | (go_simp; with_reducible rfl)
    simp only [List.setIfInBounds_toArray, List.set_cons_zero, List.set_cons_succ]
    refine takeD (i := 17) (v := ?_) 91 rfl rfl ?_ ?_ ?_ (fun _ _ _ h => h) ?_ (by assumption) ?_
    rotate_left
    · kernel_rfl
    · kernel_rfl
    · kernel_rfl
    · refine Or.inl (And.intro ?_ ?_)
      · rfl
      · intro w hSw
        obtain ⟨⟨c0, c1, c2, c3, c4, c5, c6, c7, _⟩, e0, e1, eN⟩ := hSw
        have hcv0 := HCV.out w (HNC.out.trans eN)
        first | (go_simp; done) | (go_simp; with_reducible rfl)
    simp only [List.setIfInBounds_toArray, List.set_cons_zero, List.set_cons_succ]
    refine takeD (i := 18) (v := undef) 92 rfl rfl ?_ ?_ ?_ (fun _ _ _ h => h) (Or.inr (And.intro ?_ rfl)) (by assumption) ?_
    · kernel_rfl
    · kernel_rfl
    · kernel_rfl
    · rfl
    simp only [List.setIfInBounds_toArray, List.set_cons_zero, List.set_cons_succ]
    refine takeD (i := 21) (v := undef) 95 rfl rfl ?_ ?_ ?_ (fun _ _ _ h => h) (Or.inr (And.intro ?_ rfl)) (by assumption) ?_
    · kernel_rfl
    · kernel_rfl
    · kernel_rfl
    · rfl
    simp only [List.setIfInBounds_toArray, List.set_cons_zero, List.set_cons_succ]
    refine takeD (i := 22) (v := undef) 96 rfl rfl ?_ ?_ ?_ (fun _ _ _ h => h) (Or.inr (And.intro ?_ rfl)) (by assumption) ?_
    · kernel_rfl
    · kernel_rfl
    · kernel_rfl
    · rfl
    simp only [List.setIfInBounds_toArray, List.set_cons_zero, List.set_cons_succ]
    refine wpAnyH_ready (rs := [19]) (by kernel_rfl) (by simp) ?_
    refine AllReadyH.cons rfl (fun K hK => ?_) AllReadyH.nil
    go_simp
    refine hK.out _ _ ?_ (fun hHeld2 => ?_)
    · exact hHeld
    have hHeld := hHeld2
    clear hHeld2 hK K
    refine wpAnyH_ready (rs := [20]) (by kernel_rfl) (by simp) ?_
    refine AllReadyH.cons rfl (fun K hK => ?_) AllReadyH.nil
    go_simp
    refine hK.out _ _ ?_ (fun hHeld2 => ?_)
    · exact hHeld
    have hHeld := hHeld2
    clear hHeld2 hK K
    refine takeD (i := 23) (v := undef) 97 rfl rfl ?_ ?_ ?_ (fun _ _ _ h => h) (Or.inr (And.intro ?_ rfl)) (by assumption) ?_
    · kernel_rfl
    · kernel_rfl
    · kernel_rfl
    · rfl
    simp only [List.setIfInBounds_toArray, List.set_cons_zero, List.set_cons_succ]
    refine takeD (i := 24) (v := ?_) 98 rfl rfl ?_ ?_ ?_ (fun _ _ _ h => h) ?_ (by assumption) ?_
    rotate_left
    · kernel_rfl
    · kernel_rfl
    · kernel_rfl
    · refine Or.inl (And.intro ?_ ?_)
      · rfl
      · intro w hSw
        obtain ⟨⟨c0, c1, c2, c3, c4, c5, c6, c7, _⟩, e0, e1, eN⟩ := hSw
        have hcv0 := HCV.out w (HNC.out.trans eN)
        first | (go_simp; done) | (go_simp; with_reducible rfl)
    simp only [List.setIfInBounds_toArray, List.set_cons_zero, List.set_cons_succ]
    refine wpAnyH_done (by kernel_rfl) ?_ _
    refine NoPanic.normal ?_
    obtain ⟨hR, _, _, hNE⟩ := hHeld
    have HNE := Lib.hid (HNC.out.trans hNE)
    have HBE := Lib.hid (HBX.out.nw hNE)
    have HRE := Lib.hid hR
    clear hNE hR
    revert HNE HBE HRE
    generalize wc.drew = WE
    intro HNE HBE HRE
    obtain ⟨kc0, kc1, kc2, kc3, kc4, kc5, kc6, kc7, kff⟩ := HBE.out
    have kf0 := kff 0
    have kf1 := kff 1
    have kf2 := kff 2
    have kf3 := kff 3
    have kf4 := kff 4
    have kf5 := kff 5
    have kf6 := kff 6
    have kf7 := kff 7
    clear kff
    dsimp only at kc0 kc1 kc2 kc3 kc4 kc5 kc6 kc7
    have R8 := Lib.hid (show RqAt _ _ zeroRq from (((((((HBE.out.set0 0).set1 0).set2 0).set3 0).set4 0).set5 ⟨#[]⟩).set6 ⟨#[]⟩).set7 ⟨#[]⟩)
    have U8 := Lib.hid ((((((((((Up.refl w.heap.size WE).set 0 (.int .u8 0)).set 1 (.int .u8 0)).set 2 (.int .u64 0)).set 3 (.int .u64 0)).set 4 (.int .u64 0)).set 5 (.string ⟨#[]⟩)).set 6 (.string ⟨#[]⟩)).set 7 (.string ⟨#[]⟩)))
    go_wp2_with fail
    refine bodyPost_ret (results_rq rfl _ _ w.heap.size zeroRq rfl R8.out) rfl ⟨?_, ⟨Up.below HNE.out.b U8.out HNE.out.b.size (Nat.le_refl _)⟩⟩
    obtain ⟨e1, e2⟩ := HZR.out (by rw [← HOK.out.1]; exact HF.out)
    rw [e1, e2]; rfl
  | false =>
  by_cases h0 : n = 0
  case neg =>
    have HF := Lib.hid (show okR zs s = false from by rw [HOR.out, decide_eq_false h0]; rfl)
    have hp : 0 < n := by omega
    go_wp2_with fail
    refine wp_region_noPanic ?_
    refine wp_region_held_drew (S := (fun w' => RqAt w' qb q ∧ w'.cell? ⟨w.heap.size + 1, 0, none⟩ = some (.slice ta n tcap) ∧ w'.cell? ⟨w.heap.size + 1, 1, none⟩ = some (.bool false) ∧ Nw wc w')) (by kernel_rfl) ?_ (fun hHeld => ?_)
    · exact ⟨HRQ.out.nw Nw.refl.drew, HTS.out, HTC.out, Nw.refl.drew⟩
    refine takeD (i := 0) (v := ?_) 74 rfl rfl ?_ ?_ ?_ (fun _ _ _ h => h) ?_ (by assumption) ?_
    rotate_left
    · kernel_rfl
    · kernel_rfl
    · kernel_rfl
    · refine Or.inl (And.intro ?_ ?_)
      · rfl
      · intro w hSw
        obtain ⟨⟨c0, c1, c2, c3, c4, c5, c6, c7, _⟩, e0, e1, eN⟩ := hSw
        have hcv0 := HCV.out w (HNC.out.trans eN)
        first | (go_simp; done) | (go_simp; with_reducible rfl)
    simp only [List.setIfInBounds_toArray, List.set_cons_zero, List.set_cons_succ]
    refine takeD (i := 1) (v := ?_) 75 rfl rfl ?_ ?_ ?_ (fun _ _ _ h => h) ?_ (by assumption) ?_
    rotate_left
    · kernel_rfl
    · kernel_rfl
    · kernel_rfl
    · refine Or.inl (And.intro ?_ ?_)
      · rfl
      · intro w hSw
        obtain ⟨⟨c0, c1, c2, c3, c4, c5, c6, c7, _⟩, e0, e1, eN⟩ := hSw
        have hcv0 := HCV.out w (HNC.out.trans eN)
        first | (go_simp; done) | (go_simp; with_reducible rfl)
    simp only [List.setIfInBounds_toArray, List.set_cons_zero, List.set_cons_succ]
    refine takeD (i := 2) (v := ?_) 76 rfl rfl ?_ ?_ ?_ (fun _ _ _ h => h) ?_ (by assumption) ?_
    rotate_left
    · kernel_rfl
    · kernel_rfl
    · kernel_rfl
    · refine Or.inl (And.intro ?_ ?_)
      · rfl
      · intro w hSw
        obtain ⟨⟨c0, c1, c2, c3, c4, c5, c6, c7, _⟩, e0, e1, eN⟩ := hSw
        have hcv0 := HCV.out w (HNC.out.trans eN)
        first | (go_simp; done) | (go_simp; with_reducible rfl)
    simp only [List.setIfInBounds_toArray, List.set_cons_zero, List.set_cons_succ]
    refine takeD (i := 3) (v := ?_) 77 rfl rfl ?_ ?_ ?_ (fun _ _ _ h => h) ?_ (by assumption) ?_
    rotate_left
    · kernel_rfl
    · kernel_rfl
    · kernel_rfl
    · refine Or.inl (And.intro ?_ ?_)
      · rfl
      · intro w hSw
        obtain ⟨⟨c0, c1, c2, c3, c4, c5, c6, c7, _⟩, e0, e1, eN⟩ := hSw
        have hcv0 := HCV.out w (HNC.out.trans eN)
        first | (go_simp; done) | (go_simp; with_reducible rfl)
    simp only [List.setIfInBounds_toArray, List.set_cons_zero, List.set_cons_succ]
    refine takeD (i := 4) (v := ?_) 78 rfl rfl ?_ ?_ ?_ (fun _ _ _ h => h) ?_ (by assumption) ?_
    rotate_left
    · kernel_rfl
    · kernel_rfl
    · kernel_rfl
    · refine Or.inl (And.intro ?_ ?_)
      · rfl
      · intro w hSw
        obtain ⟨⟨c0, c1, c2, c3, c4, c5, c6, c7, _⟩, e0, e1, eN⟩ := hSw
        have hcv0 := HCV.out w (HNC.out.trans eN)
        first | (go_simp; done) | (go_simp; with_reducible rfl)
    simp only [List.setIfInBounds_toArray, List.set_cons_zero, List.set_cons_succ]
    refine takeD (i := 5) (v := ?_) 79 rfl rfl ?_ ?_ ?_ (fun _ _ _ h => h) ?_ (by assumption) ?_
    rotate_left
    · kernel_rfl
    · kernel_rfl
    · kernel_rfl
    · refine Or.inl (And.intro ?_ ?_)
      · rfl
      · intro w hSw
        obtain ⟨⟨c0, c1, c2, c3, c4, c5, c6, c7, _⟩, e0, e1, eN⟩ := hSw
        have hcv0 := HCV.out w (HNC.out.trans eN)
        first | (go_simp; done) | (go_simp; with_reducible rfl)
    simp only [List.setIfInBounds_toArray, List.set_cons_zero, List.set_cons_succ]
    refine takeD (i := 6) (v := ?_) 80 rfl rfl ?_ ?_ ?_ (fun _ _ _ h => h) ?_ (by assumption) ?_
    rotate_left
    · kernel_rfl
    · kernel_rfl
    · kernel_rfl
    · refine Or.inl (And.intro ?_ ?_)
      · rfl
      · intro w hSw
        obtain ⟨⟨c0, c1, c2, c3, c4, c5, c6, c7, _⟩, e0, e1, eN⟩ := hSw
        have hcv0 := HCV.out w (HNC.out.trans eN)
        first | (go_simp; done) | (go_simp; with_reducible rfl)
    simp only [List.setIfInBounds_toArray, List.set_cons_zero, List.set_cons_succ]
    refine takeD (i := 7) (v := ?_) 81 rfl rfl ?_ ?_ ?_ (fun _ _ _ h => h) ?_ (by assumption) ?_
    rotate_left
    · kernel_rfl
    · kernel_rfl
    · kernel_rfl
    · refine Or.inl (And.intro ?_ ?_)
      · rfl
      · intro w hSw
        obtain ⟨⟨c0, c1, c2, c3, c4, c5, c6, c7, _⟩, e0, e1, eN⟩ := hSw
        have hcv0 := HCV.out w (HNC.out.trans eN)
        first | (go_simp; done) | (go_simp; with_reducible rfl)
    simp only [List.setIfInBounds_toArray, List.set_cons_zero, List.set_cons_succ]
    refine takeD (i := 8) (v := ?_) 82 rfl rfl ?_ ?_ ?_ (fun _ _ _ h => h) ?_ (by assumption) ?_
    rotate_left
    · kernel_rfl
    · kernel_rfl
    · kernel_rfl
    · refine Or.inl (And.intro ?_ ?_)
      · rfl
      · intro w hSw
        obtain ⟨⟨c0, c1, c2, c3, c4, c5, c6, c7, _⟩, e0, e1, eN⟩ := hSw
        have hcv0 := HCV.out w (HNC.out.trans eN)
        first | (go_simp; done) | (go_simp; with_reducible rfl)
    simp only [List.setIfInBounds_toArray, List.set_cons_zero, List.set_cons_succ]
    refine takeD (i := 9) (v := ?_) 83 rfl rfl ?_ ?_ ?_ (fun _ _ _ h => h) ?_ (by assumption) ?_
    rotate_left
    · kernel_rfl
    · kernel_rfl
    · kernel_rfl
    · refine Or.inl (And.intro ?_ ?_)
      · rfl
      · intro w hSw
        obtain ⟨⟨c0, c1, c2, c3, c4, c5, c6, c7, _⟩, e0, e1, eN⟩ := hSw
        have hcv0 := HCV.out w (HNC.out.trans eN)
        first | (go_simp; done) | (go_simp; with_reducible rfl)
    simp only [List.setIfInBounds_toArray, List.set_cons_zero, List.set_cons_succ]
    refine takeD (i := 10) (v := ?_) 84 rfl rfl ?_ ?_ ?_ (fun _ _ _ h => h) ?_ (by assumption) ?_
    rotate_left
    · kernel_rfl
    · kernel_rfl
    · kernel_rfl
    · refine Or.inl (And.intro ?_ ?_)
      · rfl
      · intro w hSw
        obtain ⟨⟨c0, c1, c2, c3, c4, c5, c6, c7, _⟩, e0, e1, eN⟩ := hSw
        have hcv0 := HCV.out w (HNC.out.trans eN)
        first | (go_simp; done) | (go_simp; with_reducible rfl)
    simp only [List.setIfInBounds_toArray, List.set_cons_zero, List.set_cons_succ]
    refine takeD (i := 11) (v := ?_) 85 rfl rfl ?_ ?_ ?_ (fun _ _ _ h => h) ?_ (by assumption) ?_
    rotate_left
    · kernel_rfl
    · kernel_rfl
    · kernel_rfl
    · refine Or.inl (And.intro ?_ ?_)
      · rfl
      · intro w hSw
        obtain ⟨⟨c0, c1, c2, c3, c4, c5, c6, c7, _⟩, e0, e1, eN⟩ := hSw
        have hcv0 := HCV.out w (HNC.out.trans eN)
        first | (go_simp; done) | (go_simp; with_reducible rfl)
    simp only [List.setIfInBounds_toArray, List.set_cons_zero, List.set_cons_succ]
    refine takeD (i := 12) (v := ?_) 86 rfl rfl ?_ ?_ ?_ (fun _ _ _ h => h) ?_ (by assumption) ?_
    rotate_left
    · kernel_rfl
    · kernel_rfl
    · kernel_rfl
    · refine Or.inl (And.intro ?_ ?_)
      · rfl
      · intro w hSw
        obtain ⟨⟨c0, c1, c2, c3, c4, c5, c6, c7, _⟩, e0, e1, eN⟩ := hSw
        have hcv0 := HCV.out w (HNC.out.trans eN)
        first | (go_simp; done) | (go_simp; with_reducible rfl)
    simp only [List.setIfInBounds_toArray, List.set_cons_zero, List.set_cons_succ]
    refine takeD (i := 13) (v := undef) 87 rfl rfl ?_ ?_ ?_ (fun _ _ _ h => h) (Or.inr (And.intro ?_ rfl)) (by assumption) ?_
    · kernel_rfl
    · kernel_rfl
    · kernel_rfl
    · rfl
    simp only [List.setIfInBounds_toArray, List.set_cons_zero, List.set_cons_succ]
    refine wpAnyH_ready (rs := [14]) (by kernel_rfl) (by simp) ?_
    refine AllReadyH.cons rfl (fun K hK => ?_) AllReadyH.nil
    go_simp
    refine hK.out _ _ ?_ (fun hHeld2 => ?_)
    · exact hHeld
    have hHeld := hHeld2
    clear hHeld2 hK K
    refine takeD (i := 15) (v := undef) 89 rfl rfl ?_ ?_ ?_ (fun _ _ _ h => h) (Or.inr (And.intro ?_ rfl)) (by assumption) ?_
    · kernel_rfl
    · kernel_rfl
    · kernel_rfl
    · rfl
    simp only [List.setIfInBounds_toArray, List.set_cons_zero, List.set_cons_succ]
    refine takeD (i := 16) (v := ?_) 90 rfl rfl ?_ ?_ ?_ (fun _ _ _ h => h) ?_ (by assumption) ?_
    rotate_left
    · kernel_rfl
    · kernel_rfl
    · kernel_rfl
    · refine Or.inl (And.intro ?_ ?_)
      · rfl
      · intro w hSw
        obtain ⟨⟨c0, c1, c2, c3, c4, c5, c6, c7, _⟩, e0, e1, eN⟩ := hSw
        have hcv0 := HCV.out w (HNC.out.trans eN)
        first | (go_simp; done) | (go_simp; with_reducible rfl)
    simp only [List.setIfInBounds_toArray, List.set_cons_zero, List.set_cons_succ]
    refine takeD (i := 17) (v := ?_) 91 rfl rfl ?_ ?_ ?_ (fun _ _ _ h => h) ?_ (by assumption) ?_
    rotate_left
    · kernel_rfl
    · kernel_rfl
    · kernel_rfl
    · refine Or.inl (And.intro ?_ ?_)
      · rfl
      · intro w hSw
        obtain ⟨⟨c0, c1, c2, c3, c4, c5, c6, c7, _⟩, e0, e1, eN⟩ := hSw
        have hcv0 := HCV.out w (HNC.out.trans eN)
        first | (go_simp; done) | (go_simp; with_reducible rfl)
    simp only [List.setIfInBounds_toArray, List.set_cons_zero, List.set_cons_succ]
    refine takeD (i := 18) (v := undef) 92 rfl rfl ?_ ?_ ?_ (fun _ _ _ h => h) (Or.inr (And.intro ?_ rfl)) (by assumption) ?_
    · kernel_rfl
    · kernel_rfl
    · kernel_rfl
    · rfl
    simp only [List.setIfInBounds_toArray, List.set_cons_zero, List.set_cons_succ]
    refine takeD (i := 21) (v := undef) 95 rfl rfl ?_ ?_ ?_ (fun _ _ _ h => h) (Or.inr (And.intro ?_ rfl)) (by assumption) ?_
    · kernel_rfl
    · kernel_rfl
    · kernel_rfl
    · rfl
    simp only [List.setIfInBounds_toArray, List.set_cons_zero, List.set_cons_succ]
    refine takeD (i := 22) (v := undef) 96 rfl rfl ?_ ?_ ?_ (fun _ _ _ h => h) (Or.inr (And.intro ?_ rfl)) (by assumption) ?_
    · kernel_rfl
    · kernel_rfl
    · kernel_rfl
    · rfl
    simp only [List.setIfInBounds_toArray, List.set_cons_zero, List.set_cons_succ]
    refine wpAnyH_ready (rs := [19]) (by kernel_rfl) (by simp) ?_
    refine AllReadyH.cons rfl (fun K hK => ?_) AllReadyH.nil
    go_simp
    refine hK.out _ _ ?_ (fun hHeld2 => ?_)
    · exact hHeld
    have hHeld := hHeld2
    clear hHeld2 hK K
    refine wpAnyH_ready (rs := [20]) (by kernel_rfl) (by simp) ?_
    refine AllReadyH.cons rfl (fun K hK => ?_) AllReadyH.nil
    go_simp
    refine hK.out _ _ ?_ (fun hHeld2 => ?_)
    · exact hHeld
    have hHeld := hHeld2
    clear hHeld2 hK K
    refine takeD (i := 23) (v := undef) 97 rfl rfl ?_ ?_ ?_ (fun _ _ _ h => h) (Or.inr (And.intro ?_ rfl)) (by assumption) ?_
    · kernel_rfl
    · kernel_rfl
    · kernel_rfl
    · rfl
    simp only [List.setIfInBounds_toArray, List.set_cons_zero, List.set_cons_succ]
    refine takeD (i := 24) (v := ?_) 98 rfl rfl ?_ ?_ ?_ (fun _ _ _ h => h) ?_ (by assumption) ?_
    rotate_left
    · kernel_rfl
    · kernel_rfl
    · kernel_rfl
    · refine Or.inl (And.intro ?_ ?_)
      · rfl
      · intro w hSw
        obtain ⟨⟨c0, c1, c2, c3, c4, c5, c6, c7, _⟩, e0, e1, eN⟩ := hSw
        have hcv0 := HCV.out w (HNC.out.trans eN)
        first | (go_simp; done) | (go_simp; with_reducible rfl)
    simp only [List.setIfInBounds_toArray, List.set_cons_zero, List.set_cons_succ]
    refine wpAnyH_done (by kernel_rfl) ?_ _
    refine NoPanic.normal ?_
    obtain ⟨hR, _, _, hNE⟩ := hHeld
    have HNE := Lib.hid (HNC.out.trans hNE)
    have HBE := Lib.hid (HBX.out.nw hNE)
    have HRE := Lib.hid hR
    clear hNE hR
    revert HNE HBE HRE
    generalize wc.drew = WE
    intro HNE HBE HRE
    obtain ⟨kc0, kc1, kc2, kc3, kc4, kc5, kc6, kc7, kff⟩ := HBE.out
    have kf0 := kff 0
    have kf1 := kff 1
    have kf2 := kff 2
    have kf3 := kff 3
    have kf4 := kff 4
    have kf5 := kff 5
    have kf6 := kff 6
    have kf7 := kff 7
    clear kff
    dsimp only at kc0 kc1 kc2 kc3 kc4 kc5 kc6 kc7
    have R8 := Lib.hid (show RqAt _ _ zeroRq from (((((((HBE.out.set0 0).set1 0).set2 0).set3 0).set4 0).set5 ⟨#[]⟩).set6 ⟨#[]⟩).set7 ⟨#[]⟩)
    have U8 := Lib.hid ((((((((((Up.refl w.heap.size WE).set 0 (.int .u8 0)).set 1 (.int .u8 0)).set 2 (.int .u64 0)).set 3 (.int .u64 0)).set 4 (.int .u64 0)).set 5 (.string ⟨#[]⟩)).set 6 (.string ⟨#[]⟩)).set 7 (.string ⟨#[]⟩)))
    go_wp2_with fail
    refine bodyPost_ret (results_rq rfl _ _ w.heap.size zeroRq rfl R8.out) rfl ⟨?_, ⟨Up.below HNE.out.b U8.out HNE.out.b.size (Nat.le_refl _)⟩⟩
    obtain ⟨e1, e2⟩ := HZR.out (by rw [← HOK.out.1]; exact HF.out)
    rw [e1, e2]; rfl
  subst h0
  cases mm with
  | false =>
    have HF := Lib.hid (show okR zs s = false from by rw [HOR.out]; rfl)
    go_wp2_with fail
    refine wp_region_noPanic ?_
    refine wp_region_held_drew (S := (fun w' => RqAt w' qb q ∧ w'.cell? ⟨w.heap.size + 1, 0, none⟩ = some (.slice ta 0 tcap) ∧ w'.cell? ⟨w.heap.size + 1, 1, none⟩ = some (.bool false) ∧ Nw wc w')) (by kernel_rfl) ?_ (fun hHeld => ?_)
    · exact ⟨HRQ.out.nw Nw.refl.drew, HTS.out, HTC.out, Nw.refl.drew⟩
    refine takeD (i := 0) (v := ?_) 74 rfl rfl ?_ ?_ ?_ (fun _ _ _ h => h) ?_ (by assumption) ?_
    rotate_left
    · kernel_rfl
    · kernel_rfl
    · kernel_rfl
    · refine Or.inl (And.intro ?_ ?_)
      · rfl
      · intro w hSw
        obtain ⟨⟨c0, c1, c2, c3, c4, c5, c6, c7, _⟩, e0, e1, eN⟩ := hSw
        have hcv0 := HCV.out w (HNC.out.trans eN)
        first | (go_simp; done) | (go_simp; with_reducible rfl)
    simp only [List.setIfInBounds_toArray, List.set_cons_zero, List.set_cons_succ]
    refine takeD (i := 1) (v := ?_) 75 rfl rfl ?_ ?_ ?_ (fun _ _ _ h => h) ?_ (by assumption) ?_
    rotate_left
    · kernel_rfl
    · kernel_rfl
    · kernel_rfl
    · refine Or.inl (And.intro ?_ ?_)
      · rfl
      · intro w hSw
        obtain ⟨⟨c0, c1, c2, c3, c4, c5, c6, c7, _⟩, e0, e1, eN⟩ := hSw
        have hcv0 := HCV.out w (HNC.out.trans eN)
        first | (go_simp; done) | (go_simp; with_reducible rfl)
    simp only [List.setIfInBounds_toArray, List.set_cons_zero, List.set_cons_succ]
    refine takeD (i := 2) (v := ?_) 76 rfl rfl ?_ ?_ ?_ (fun _ _ _ h => h) ?_ (by assumption) ?_
    rotate_left
    · kernel_rfl
    · kernel_rfl
    · kernel_rfl
    · refine Or.inl (And.intro ?_ ?_)
      · rfl
      · intro w hSw
        obtain ⟨⟨c0, c1, c2, c3, c4, c5, c6, c7, _⟩, e0, e1, eN⟩ := hSw
        have hcv0 := HCV.out w (HNC.out.trans eN)
        first | (go_simp; done) | (go_simp; with_reducible rfl)
    simp only [List.setIfInBounds_toArray, List.set_cons_zero, List.set_cons_succ]
    refine takeD (i := 3) (v := ?_) 77 rfl rfl ?_ ?_ ?_ (fun _ _ _ h => h) ?_ (by assumption) ?_
    rotate_left
    · kernel_rfl
    · kernel_rfl
    · kernel_rfl
    · refine Or.inl (And.intro ?_ ?_)
      · rfl
      · intro w hSw
        obtain ⟨⟨c0, c1, c2, c3, c4, c5, c6, c7, _⟩, e0, e1, eN⟩ := hSw
        have hcv0 := HCV.out w (HNC.out.trans eN)
        first | (go_simp; done) | (go_simp; with_reducible rfl)
    simp only [List.setIfInBounds_toArray, List.set_cons_zero, List.set_cons_succ]
    refine takeD (i := 4) (v := ?_) 78 rfl rfl ?_ ?_ ?_ (fun _ _ _ h => h) ?_ (by assumption) ?_
    rotate_left
    · kernel_rfl
    · kernel_rfl
    · kernel_rfl
    · refine Or.inl (And.intro ?_ ?_)
      · rfl
      · intro w hSw
        obtain ⟨⟨c0, c1, c2, c3, c4, c5, c6, c7, _⟩, e0, e1, eN⟩ := hSw
        have hcv0 := HCV.out w (HNC.out.trans eN)
        first | (go_simp; done) | (go_simp; with_reducible rfl)
    simp only [List.setIfInBounds_toArray, List.set_cons_zero, List.set_cons_succ]
    refine takeD (i := 5) (v := ?_) 79 rfl rfl ?_ ?_ ?_ (fun _ _ _ h => h) ?_ (by assumption) ?_
    rotate_left
    · kernel_rfl
    · kernel_rfl
    · kernel_rfl
    · refine Or.inl (And.intro ?_ ?_)
      · rfl
      · intro w hSw
        obtain ⟨⟨c0, c1, c2, c3, c4, c5, c6, c7, _⟩, e0, e1, eN⟩ := hSw
        have hcv0 := HCV.out w (HNC.out.trans eN)
        first | (go_simp; done) | (go_simp; with_reducible rfl)
    simp only [List.setIfInBounds_toArray, List.set_cons_zero, List.set_cons_succ]
    refine takeD (i := 6) (v := ?_) 80 rfl rfl ?_ ?_ ?_ (fun _ _ _ h => h) ?_ (by assumption) ?_
    rotate_left
    · kernel_rfl
    · kernel_rfl
    · kernel_rfl
    · refine Or.inl (And.intro ?_ ?_)
      · rfl
      · intro w hSw
        obtain ⟨⟨c0, c1, c2, c3, c4, c5, c6, c7, _⟩, e0, e1, eN⟩ := hSw
        have hcv0 := HCV.out w (HNC.out.trans eN)
        first | (go_simp; done) | (go_simp; with_reducible rfl)
    simp only [List.setIfInBounds_toArray, List.set_cons_zero, List.set_cons_succ]
    refine takeD (i := 7) (v := ?_) 81 rfl rfl ?_ ?_ ?_ (fun _ _ _ h => h) ?_ (by assumption) ?_
    rotate_left
    · kernel_rfl
    · kernel_rfl
    · kernel_rfl
    · refine Or.inl (And.intro ?_ ?_)
      · rfl
      · intro w hSw
        obtain ⟨⟨c0, c1, c2, c3, c4, c5, c6, c7, _⟩, e0, e1, eN⟩ := hSw
        have hcv0 := HCV.out w (HNC.out.trans eN)
        first | (go_simp; done) | (go_simp; with_reducible rfl)
    simp only [List.setIfInBounds_toArray, List.set_cons_zero, List.set_cons_succ]
    refine takeD (i := 8) (v := ?_) 82 rfl rfl ?_ ?_ ?_ (fun _ _ _ h => h) ?_ (by assumption) ?_
    rotate_left
    · kernel_rfl
    · kernel_rfl
    · kernel_rfl
    · refine Or.inl (And.intro ?_ ?_)
      · rfl
      · intro w hSw
        obtain ⟨⟨c0, c1, c2, c3, c4, c5, c6, c7, _⟩, e0, e1, eN⟩ := hSw
        have hcv0 := HCV.out w (HNC.out.trans eN)
        first | (go_simp; done) | (go_simp; with_reducible rfl)
    simp only [List.setIfInBounds_toArray, List.set_cons_zero, List.set_cons_succ]
    refine takeD (i := 9) (v := ?_) 83 rfl rfl ?_ ?_ ?_ (fun _ _ _ h => h) ?_ (by assumption) ?_
    rotate_left
    · kernel_rfl
    · kernel_rfl
    · kernel_rfl
    · refine Or.inl (And.intro ?_ ?_)
      · rfl
      · intro w hSw
        obtain ⟨⟨c0, c1, c2, c3, c4, c5, c6, c7, _⟩, e0, e1, eN⟩ := hSw
        have hcv0 := HCV.out w (HNC.out.trans eN)
        first | (go_simp; done) | (go_simp; with_reducible rfl)
    simp only [List.setIfInBounds_toArray, List.set_cons_zero, List.set_cons_succ]
    refine takeD (i := 10) (v := ?_) 84 rfl rfl ?_ ?_ ?_ (fun _ _ _ h => h) ?_ (by assumption) ?_
    rotate_left
    · kernel_rfl
    · kernel_rfl
    · kernel_rfl
    · refine Or.inl (And.intro ?_ ?_)
      · rfl
      · intro w hSw
        obtain ⟨⟨c0, c1, c2, c3, c4, c5, c6, c7, _⟩, e0, e1, eN⟩ := hSw
        have hcv0 := HCV.out w (HNC.out.trans eN)
        first | (go_simp; done) | (go_simp; with_reducible rfl)
    simp only [List.setIfInBounds_toArray, List.set_cons_zero, List.set_cons_succ]
    refine takeD (i := 11) (v := ?_) 85 rfl rfl ?_ ?_ ?_ (fun _ _ _ h => h) ?_ (by assumption) ?_
    rotate_left
    · kernel_rfl
    · kernel_rfl
    · kernel_rfl
    · refine Or.inl (And.intro ?_ ?_)
      · rfl
      · intro w hSw
        obtain ⟨⟨c0, c1, c2, c3, c4, c5, c6, c7, _⟩, e0, e1, eN⟩ := hSw
        have hcv0 := HCV.out w (HNC.out.trans eN)
        first | (go_simp; done) | (go_simp; with_reducible rfl)
    simp only [List.setIfInBounds_toArray, List.set_cons_zero, List.set_cons_succ]
    refine takeD (i := 12) (v := ?_) 86 rfl rfl ?_ ?_ ?_ (fun _ _ _ h => h) ?_ (by assumption) ?_
    rotate_left
    · kernel_rfl
    · kernel_rfl
    · kernel_rfl
    · refine Or.inl (And.intro ?_ ?_)
      · rfl
      · intro w hSw
        obtain ⟨⟨c0, c1, c2, c3, c4, c5, c6, c7, _⟩, e0, e1, eN⟩ := hSw
        have hcv0 := HCV.out w (HNC.out.trans eN)
        first | (go_simp; done) | (go_simp; with_reducible rfl)
    simp only [List.setIfInBounds_toArray, List.set_cons_zero, List.set_cons_succ]
    refine takeD (i := 13) (v := ?_) 87 rfl rfl ?_ ?_ ?_ (fun _ _ _ h => h) ?_ (by assumption) ?_
    rotate_left
    · kernel_rfl
    · kernel_rfl
    · kernel_rfl
    · refine Or.inl (And.intro ?_ ?_)
      · rfl
      · intro w hSw
        obtain ⟨⟨c0, c1, c2, c3, c4, c5, c6, c7, _⟩, e0, e1, eN⟩ := hSw
        have hcv0 := HCV.out w (HNC.out.trans eN)
        first | (go_simp; done) | (go_simp; with_reducible rfl)
    simp only [List.setIfInBounds_toArray, List.set_cons_zero, List.set_cons_succ]
    refine wpAnyH_ready (rs := [14]) (by kernel_rfl) (by simp) ?_
    refine AllReadyH.cons rfl (fun K hK => ?_) AllReadyH.nil
    go_simp
    go_wp2_with (go_at_call 14; refine (HMC.out _).mono ?_; rintro e w4 ⟨rfl, kx⟩)
    refine hK.out _ _ ?_ (fun hHeld2 => ?_)
    · exact ⟨hHeld.1.nw kx, (kx.b.cell (p := ⟨w.heap.size + 1, 0, none⟩) (cell_lt hHeld.2.1).1).trans hHeld.2.1, (kx.b.cell (p := ⟨w.heap.size + 1, 1, none⟩) (cell_lt hHeld.2.2.1).1).trans hHeld.2.2.1, hHeld.2.2.2.trans kx⟩
    have hHeld := hHeld2
    clear hHeld2 hK K
    refine takeD (i := 15) (v := ?_) 89 rfl rfl ?_ ?_ ?_ (fun _ _ _ h => h) ?_ (by assumption) ?_
    rotate_left
    · kernel_rfl
    · kernel_rfl
    · kernel_rfl
    · refine Or.inl (And.intro ?_ ?_)
      · rfl
      · intro w hSw
        obtain ⟨⟨c0, c1, c2, c3, c4, c5, c6, c7, _⟩, e0, e1, eN⟩ := hSw
        have hcv0 := HCV.out w (HNC.out.trans eN)
        first | (go_simp; done) | (go_simp; with_reducible rfl)
    simp only [List.setIfInBounds_toArray, List.set_cons_zero, List.set_cons_succ]
    refine takeD (i := 16) (v := ?_) 90 rfl rfl ?_ ?_ ?_ (fun _ _ _ h => h) ?_ (by assumption) ?_
    rotate_left
    · kernel_rfl
    · kernel_rfl
    · kernel_rfl
    · refine Or.inl (And.intro ?_ ?_)
      · rfl
      · intro w hSw
        obtain ⟨⟨c0, c1, c2, c3, c4, c5, c6, c7, _⟩, e0, e1, eN⟩ := hSw
        have hcv0 := HCV.out w (HNC.out.trans eN)
        first | (go_simp; done) | (go_simp; with_reducible rfl)
    simp only [List.setIfInBounds_toArray, List.set_cons_zero, List.set_cons_succ]
    refine takeD (i := 17) (v := ?_) 91 rfl rfl ?_ ?_ ?_ (fun _ _ _ h => h) ?_ (by assumption) ?_
    rotate_left
    · kernel_rfl
    · kernel_rfl
    · kernel_rfl
    · refine Or.inl (And.intro ?_ ?_)
      · rfl
      · intro w hSw
        obtain ⟨⟨c0, c1, c2, c3, c4, c5, c6, c7, _⟩, e0, e1, eN⟩ := hSw
        have hcv0 := HCV.out w (HNC.out.trans eN)
        first | (go_simp; done) | (go_simp; with_reducible rfl)
    simp only [List.setIfInBounds_toArray, List.set_cons_zero, List.set_cons_succ]
    refine takeD (i := 18) (v := undef) 92 rfl rfl ?_ ?_ ?_ (fun _ _ _ h => h) (Or.inr (And.intro ?_ rfl)) (by assumption) ?_
    · kernel_rfl
    · kernel_rfl
    · kernel_rfl
    · rfl
    simp only [List.setIfInBounds_toArray, List.set_cons_zero, List.set_cons_succ]
    refine takeD (i := 21) (v := undef) 95 rfl rfl ?_ ?_ ?_ (fun _ _ _ h => h) (Or.inr (And.intro ?_ rfl)) (by assumption) ?_
    · kernel_rfl
    · kernel_rfl
    · kernel_rfl
    · rfl
    simp only [List.setIfInBounds_toArray, List.set_cons_zero, List.set_cons_succ]
    refine takeD (i := 22) (v := undef) 96 rfl rfl ?_ ?_ ?_ (fun _ _ _ h => h) (Or.inr (And.intro ?_ rfl)) (by assumption) ?_
    · kernel_rfl
    · kernel_rfl
    · kernel_rfl
    · rfl
    simp only [List.setIfInBounds_toArray, List.set_cons_zero, List.set_cons_succ]
    refine wpAnyH_ready (rs := [19]) (by kernel_rfl) (by simp) ?_
    refine AllReadyH.cons rfl (fun K hK => ?_) AllReadyH.nil
    go_simp
    refine hK.out _ _ ?_ (fun hHeld2 => ?_)
    · exact hHeld
    have hHeld := hHeld2
    clear hHeld2 hK K
    refine wpAnyH_ready (rs := [20]) (by kernel_rfl) (by simp) ?_
    refine AllReadyH.cons rfl (fun K hK => ?_) AllReadyH.nil
    go_simp
    refine hK.out _ _ ?_ (fun hHeld2 => ?_)
    · exact hHeld
    have hHeld := hHeld2
    clear hHeld2 hK K
    refine takeD (i := 23) (v := undef) 97 rfl rfl ?_ ?_ ?_ (fun _ _ _ h => h) (Or.inr (And.intro ?_ rfl)) (by assumption) ?_
    · kernel_rfl
    · kernel_rfl
    · kernel_rfl
    · rfl
    simp only [List.setIfInBounds_toArray, List.set_cons_zero, List.set_cons_succ]
    refine takeD (i := 24) (v := ?_) 98 rfl rfl ?_ ?_ ?_ (fun _ _ _ h => h) ?_ (by assumption) ?_
    rotate_left
    · kernel_rfl
    · kernel_rfl
    · kernel_rfl
    · refine Or.inl (And.intro ?_ ?_)
      · rfl
      · intro w hSw
        obtain ⟨⟨c0, c1, c2, c3, c4, c5, c6, c7, _⟩, e0, e1, eN⟩ := hSw
        have hcv0 := HCV.out w (HNC.out.trans eN)
        first | (go_simp; done) | (go_simp; with_reducible rfl)
    simp only [List.setIfInBounds_toArray, List.set_cons_zero, List.set_cons_succ]
    refine wpAnyH_done (by kernel_rfl) ?_ _
    refine NoPanic.normal ?_
    obtain ⟨hR, _, _, hNE⟩ := hHeld
    have HNE := Lib.hid (HNC.out.trans hNE)
    have HBE := Lib.hid (HBX.out.nw hNE)
    have HRE := Lib.hid hR
    clear hNE hR
    obtain ⟨kc0, kc1, kc2, kc3, kc4, kc5, kc6, kc7, kff⟩ := HBE.out
    have kf0 := kff 0
    have kf1 := kff 1
    have kf2 := kff 2
    have kf3 := kff 3
    have kf4 := kff 4
    have kf5 := kff 5
    have kf6 := kff 6
    have kf7 := kff 7
    clear kff
    dsimp only at kc0 kc1 kc2 kc3 kc4 kc5 kc6 kc7
    have R8 := Lib.hid (show RqAt _ _ zeroRq from (((((((HBE.out.set0 0).set1 0).set2 0).set3 0).set4 0).set5 ⟨#[]⟩).set6 ⟨#[]⟩).set7 ⟨#[]⟩)
    have U8 := Lib.hid ((((((((((Up.refl w.heap.size w4).set 0 (.int .u8 0)).set 1 (.int .u8 0)).set 2 (.int .u64 0)).set 3 (.int .u64 0)).set 4 (.int .u64 0)).set 5 (.string ⟨#[]⟩)).set 6 (.string ⟨#[]⟩)).set 7 (.string ⟨#[]⟩)))
    go_wp2_with fail
    refine bodyPost_ret (results_rq rfl _ _ w.heap.size zeroRq rfl R8.out) rfl ⟨?_, ⟨Up.below HNE.out.b U8.out HNE.out.b.size (Nat.le_refl _)⟩⟩
    obtain ⟨e1, e2⟩ := HZR.out (by rw [← HOK.out.1]; exact HF.out)
    rw [e1, e2]; rfl
  | true =>
  have HPUT := Lib.hid (fun W => rput_any q (HOK.out.2.2 rfl) W)
  rw [HPE.out rfl] at HPUT
  unfold rqV at HPUT
  have HBQ := Lib.hid (HBY.out rfl)
  by_cases he : putL q = zs
  · have HF := Lib.hid (show okR zs s = true from by rw [HOR.out, decide_eq_true he]; rfl)
    have hs : (strOfNums (putL q)).toList = (strOfNums zs).toList := by rw [he]
    clear he
    go_wp2_with fail
    refine wp_region_noPanic ?_
    refine wp_region_held_drew (S := (fun w' => RqAt w' qb q ∧ w'.cell? ⟨w.heap.size + 1, 0, none⟩ = some (.slice ta 0 tcap) ∧ w'.cell? ⟨w.heap.size + 1, 1, none⟩ = some (.bool false) ∧ Nw wc w')) (by kernel_rfl) ?_ (fun hHeld => ?_)
    · exact ⟨HRQ.out.nw Nw.refl.drew, HTS.out, HTC.out, Nw.refl.drew⟩
    refine takeD (i := 0) (v := ?_) 74 rfl rfl ?_ ?_ ?_ (fun _ _ _ h => h) ?_ (by assumption) ?_
    rotate_left
    · kernel_rfl
    · kernel_rfl
    · kernel_rfl
    · refine Or.inl (And.intro ?_ ?_)
      · rfl
      · intro w hSw
        obtain ⟨⟨c0, c1, c2, c3, c4, c5, c6, c7, _⟩, e0, e1, eN⟩ := hSw
        have hcv0 := HCV.out w (HNC.out.trans eN)
        first | (go_simp; done) | (go_simp; with_reducible rfl)
    simp only [List.setIfInBounds_toArray, List.set_cons_zero, List.set_cons_succ]
    refine takeD (i := 1) (v := ?_) 75 rfl rfl ?_ ?_ ?_ (fun _ _ _ h => h) ?_ (by assumption) ?_
    rotate_left
    · kernel_rfl
    · kernel_rfl
    · kernel_rfl
    · refine Or.inl (And.intro ?_ ?_)
      · rfl
      · intro w hSw
        obtain ⟨⟨c0, c1, c2, c3, c4, c5, c6, c7, _⟩, e0, e1, eN⟩ := hSw
        have hcv0 := HCV.out w (HNC.out.trans eN)
        first | (go_simp; done) | (go_simp; with_reducible rfl)
    simp only [List.setIfInBounds_toArray, List.set_cons_zero, List.set_cons_succ]
    refine takeD (i := 2) (v := ?_) 76 rfl rfl ?_ ?_ ?_ (fun _ _ _ h => h) ?_ (by assumption) ?_
    rotate_left
    · kernel_rfl
    · kernel_rfl
    · kernel_rfl
    · refine Or.inl (And.intro ?_ ?_)
      · rfl
      · intro w hSw
        obtain ⟨⟨c0, c1, c2, c3, c4, c5, c6, c7, _⟩, e0, e1, eN⟩ := hSw
        have hcv0 := HCV.out w (HNC.out.trans eN)
        first | (go_simp; done) | (go_simp; with_reducible rfl)
    simp only [List.setIfInBounds_toArray, List.set_cons_zero, List.set_cons_succ]
    refine takeD (i := 3) (v := ?_) 77 rfl rfl ?_ ?_ ?_ (fun _ _ _ h => h) ?_ (by assumption) ?_
    rotate_left
    · kernel_rfl
    · kernel_rfl
    · kernel_rfl
    · refine Or.inl (And.intro ?_ ?_)
      · rfl
      · intro w hSw
        obtain ⟨⟨c0, c1, c2, c3, c4, c5, c6, c7, _⟩, e0, e1, eN⟩ := hSw
        have hcv0 := HCV.out w (HNC.out.trans eN)
        first | (go_simp; done) | (go_simp; with_reducible rfl)
    simp only [List.setIfInBounds_toArray, List.set_cons_zero, List.set_cons_succ]
    refine takeD (i := 4) (v := ?_) 78 rfl rfl ?_ ?_ ?_ (fun _ _ _ h => h) ?_ (by assumption) ?_
    rotate_left
    · kernel_rfl
    · kernel_rfl
    · kernel_rfl
    · refine Or.inl (And.intro ?_ ?_)
      · rfl
      · intro w hSw
        obtain ⟨⟨c0, c1, c2, c3, c4, c5, c6, c7, _⟩, e0, e1, eN⟩ := hSw
        have hcv0 := HCV.out w (HNC.out.trans eN)
        first | (go_simp; done) | (go_simp; with_reducible rfl)
    simp only [List.setIfInBounds_toArray, List.set_cons_zero, List.set_cons_succ]
    refine takeD (i := 5) (v := ?_) 79 rfl rfl ?_ ?_ ?_ (fun _ _ _ h => h) ?_ (by assumption) ?_
    rotate_left
    · kernel_rfl
    · kernel_rfl
    · kernel_rfl
    · refine Or.inl (And.intro ?_ ?_)
      · rfl
      · intro w hSw
        obtain ⟨⟨c0, c1, c2, c3, c4, c5, c6, c7, _⟩, e0, e1, eN⟩ := hSw
        have hcv0 := HCV.out w (HNC.out.trans eN)
        first | (go_simp; done) | (go_simp; with_reducible rfl)
    simp only [List.setIfInBounds_toArray, List.set_cons_zero, List.set_cons_succ]
    refine takeD (i := 6) (v := ?_) 80 rfl rfl ?_ ?_ ?_ (fun _ _ _ h => h) ?_ (by assumption) ?_
    rotate_left
    · kernel_rfl
    · kernel_rfl
    · kernel_rfl
    · refine Or.inl (And.intro ?_ ?_)
      · rfl
      · intro w hSw
        obtain ⟨⟨c0, c1, c2, c3, c4, c5, c6, c7, _⟩, e0, e1, eN⟩ := hSw
        have hcv0 := HCV.out w (HNC.out.trans eN)
        first | (go_simp; done) | (go_simp; with_reducible rfl)
    simp only [List.setIfInBounds_toArray, List.set_cons_zero, List.set_cons_succ]
    refine takeD (i := 7) (v := ?_) 81 rfl rfl ?_ ?_ ?_ (fun _ _ _ h => h) ?_ (by assumption) ?_
    rotate_left
    · kernel_rfl
    · kernel_rfl
    · kernel_rfl
    · refine Or.inl (And.intro ?_ ?_)
      · rfl
      · intro w hSw
        obtain ⟨⟨c0, c1, c2, c3, c4, c5, c6, c7, _⟩, e0, e1, eN⟩ := hSw
        have hcv0 := HCV.out w (HNC.out.trans eN)
        first | (go_simp; done) | (go_simp; with_reducible rfl)
    simp only [List.setIfInBounds_toArray, List.set_cons_zero, List.set_cons_succ]
    refine takeD (i := 8) (v := ?_) 82 rfl rfl ?_ ?_ ?_ (fun _ _ _ h => h) ?_ (by assumption) ?_
    rotate_left
    · kernel_rfl
    · kernel_rfl
    · kernel_rfl
    · refine Or.inl (And.intro ?_ ?_)
      · rfl
      · intro w hSw
        obtain ⟨⟨c0, c1, c2, c3, c4, c5, c6, c7, _⟩, e0, e1, eN⟩ := hSw
        have hcv0 := HCV.out w (HNC.out.trans eN)
        first | (go_simp; done) | (go_simp; with_reducible rfl)
    simp only [List.setIfInBounds_toArray, List.set_cons_zero, List.set_cons_succ]
    refine takeD (i := 9) (v := ?_) 83 rfl rfl ?_ ?_ ?_ (fun _ _ _ h => h) ?_ (by assumption) ?_
    rotate_left
    · kernel_rfl
    · kernel_rfl
    · kernel_rfl
    · refine Or.inl (And.intro ?_ ?_)
      · rfl
      · intro w hSw
        obtain ⟨⟨c0, c1, c2, c3, c4, c5, c6, c7, _⟩, e0, e1, eN⟩ := hSw
        have hcv0 := HCV.out w (HNC.out.trans eN)
        first | (go_simp; done) | (go_simp; with_reducible rfl)
    simp only [List.setIfInBounds_toArray, List.set_cons_zero, List.set_cons_succ]
    refine takeD (i := 10) (v := ?_) 84 rfl rfl ?_ ?_ ?_ (fun _ _ _ h => h) ?_ (by assumption) ?_
    rotate_left
    · kernel_rfl
    · kernel_rfl
    · kernel_rfl
    · refine Or.inl (And.intro ?_ ?_)
      · rfl
      · intro w hSw
        obtain ⟨⟨c0, c1, c2, c3, c4, c5, c6, c7, _⟩, e0, e1, eN⟩ := hSw
        have hcv0 := HCV.out w (HNC.out.trans eN)
        first | (go_simp; done) | (go_simp; with_reducible rfl)
    simp only [List.setIfInBounds_toArray, List.set_cons_zero, List.set_cons_succ]
    refine takeD (i := 11) (v := ?_) 85 rfl rfl ?_ ?_ ?_ (fun _ _ _ h => h) ?_ (by assumption) ?_
    rotate_left
    · kernel_rfl
    · kernel_rfl
    · kernel_rfl
    · refine Or.inl (And.intro ?_ ?_)
      · rfl
      · intro w hSw
        obtain ⟨⟨c0, c1, c2, c3, c4, c5, c6, c7, _⟩, e0, e1, eN⟩ := hSw
        have hcv0 := HCV.out w (HNC.out.trans eN)
        first | (go_simp; done) | (go_simp; with_reducible rfl)
    simp only [List.setIfInBounds_toArray, List.set_cons_zero, List.set_cons_succ]
    refine takeD (i := 12) (v := ?_) 86 rfl rfl ?_ ?_ ?_ (fun _ _ _ h => h) ?_ (by assumption) ?_
    rotate_left
    · kernel_rfl
    · kernel_rfl
    · kernel_rfl
    · refine Or.inl (And.intro ?_ ?_)
      · rfl
      · intro w hSw
        obtain ⟨⟨c0, c1, c2, c3, c4, c5, c6, c7, _⟩, e0, e1, eN⟩ := hSw
        have hcv0 := HCV.out w (HNC.out.trans eN)
        first | (go_simp; done) | (go_simp; with_reducible rfl)
    simp only [List.setIfInBounds_toArray, List.set_cons_zero, List.set_cons_succ]
    refine takeD (i := 13) (v := ?_) 87 rfl rfl ?_ ?_ ?_ (fun _ _ _ h => h) ?_ (by assumption) ?_
    rotate_left
    · kernel_rfl
    · kernel_rfl
    · kernel_rfl
    · refine Or.inl (And.intro ?_ ?_)
      · rfl
      · intro w hSw
        obtain ⟨⟨c0, c1, c2, c3, c4, c5, c6, c7, _⟩, e0, e1, eN⟩ := hSw
        have hcv0 := HCV.out w (HNC.out.trans eN)
        first | (go_simp; done) | (go_simp; with_reducible rfl)
    simp only [List.setIfInBounds_toArray, List.set_cons_zero, List.set_cons_succ]
    refine wpAnyH_ready (rs := [14]) (by kernel_rfl) (by simp) ?_
    refine AllReadyH.cons rfl (fun K hK => ?_) AllReadyH.nil
    go_simp
    go_wp2_with (go_at_call 14; refine (HMC.out _).mono ?_; rintro e w4 ⟨rfl, kx⟩)
    refine hK.out _ _ ?_ (fun hHeld2 => ?_)
    · exact ⟨hHeld.1.nw kx, (kx.b.cell (p := ⟨w.heap.size + 1, 0, none⟩) (cell_lt hHeld.2.1).1).trans hHeld.2.1, (kx.b.cell (p := ⟨w.heap.size + 1, 1, none⟩) (cell_lt hHeld.2.2.1).1).trans hHeld.2.2.1, hHeld.2.2.2.trans kx⟩
    have hHeld := hHeld2
    clear hHeld2 hK K
    refine takeD (i := 15) (v := ?_) 89 rfl rfl ?_ ?_ ?_ (fun _ _ _ h => h) ?_ (by assumption) ?_
    rotate_left
    · kernel_rfl
    · kernel_rfl
    · kernel_rfl
    · refine Or.inl (And.intro ?_ ?_)
      · rfl
      · intro w hSw
        obtain ⟨⟨c0, c1, c2, c3, c4, c5, c6, c7, _⟩, e0, e1, eN⟩ := hSw
        have hcv0 := HCV.out w (HNC.out.trans eN)
        first | (go_simp; done) | (go_simp; with_reducible rfl)
    simp only [List.setIfInBounds_toArray, List.set_cons_zero, List.set_cons_succ]
    refine takeD (i := 16) (v := ?_) 90 rfl rfl ?_ ?_ ?_ (fun _ _ _ h => h) ?_ (by assumption) ?_
    rotate_left
    · kernel_rfl
    · kernel_rfl
    · kernel_rfl
    · refine Or.inl (And.intro ?_ ?_)
      · rfl
      · intro w hSw
        obtain ⟨⟨c0, c1, c2, c3, c4, c5, c6, c7, _⟩, e0, e1, eN⟩ := hSw
        have hcv0 := HCV.out w (HNC.out.trans eN)
        first | (go_simp; done) | (go_simp; with_reducible rfl)
    simp only [List.setIfInBounds_toArray, List.set_cons_zero, List.set_cons_succ]
    refine takeD (i := 17) (v := ?_) 91 rfl rfl ?_ ?_ ?_ (fun _ _ _ h => h) ?_ (by assumption) ?_
    rotate_left
    · kernel_rfl
    · kernel_rfl
    · kernel_rfl
    · refine Or.inl (And.intro ?_ ?_)
      · rfl
      · intro w hSw
        obtain ⟨⟨c0, c1, c2, c3, c4, c5, c6, c7, _⟩, e0, e1, eN⟩ := hSw
        have hcv0 := HCV.out w (HNC.out.trans eN)
        first | (go_simp; done) | (go_simp; with_reducible rfl)
    simp only [List.setIfInBounds_toArray, List.set_cons_zero, List.set_cons_succ]
    refine takeD (i := 18) (v := ?_) 92 rfl rfl ?_ ?_ ?_ (fun _ _ _ h => h) ?_ (by assumption) ?_
    rotate_left
    · kernel_rfl
    · kernel_rfl
    · kernel_rfl
    · refine Or.inl (And.intro ?_ ?_)
      · rfl
      · intro w hSw
        obtain ⟨⟨c0, c1, c2, c3, c4, c5, c6, c7, _⟩, e0, e1, eN⟩ := hSw
        have hcv0 := HCV.out w (HNC.out.trans eN)
        first | (go_simp; done) | (go_simp; with_reducible rfl)
    simp only [List.setIfInBounds_toArray, List.set_cons_zero, List.set_cons_succ]
    refine takeD (i := 21) (v := ?_) 95 rfl rfl ?_ ?_ ?_ (fun _ _ _ h => h) ?_ (by assumption) ?_
    rotate_left
    · kernel_rfl
    · kernel_rfl
    · kernel_rfl
    · refine Or.inl (And.intro ?_ ?_)
      · rfl
      · intro w hSw
        obtain ⟨⟨c0, c1, c2, c3, c4, c5, c6, c7, _⟩, e0, e1, eN⟩ := hSw
        have hcv0 := HCV.out w (HNC.out.trans eN)
        first | (go_simp; done) | (go_simp; with_reducible rfl)
    simp only [List.setIfInBounds_toArray, List.set_cons_zero, List.set_cons_succ]
    refine takeD (i := 22) (v := ?_) 96 rfl rfl ?_ ?_ ?_ (fun _ _ _ h => h) ?_ (by assumption) ?_
    rotate_left
    · kernel_rfl
    · kernel_rfl
    · kernel_rfl
    · refine Or.inl (And.intro ?_ ?_)
      · rfl
      · intro w hSw
        obtain ⟨⟨c0, c1, c2, c3, c4, c5, c6, c7, _⟩, e0, e1, eN⟩ := hSw
        have hcv0 := HCV.out w (HNC.out.trans eN)
        first | (go_simp; done) | (go_simp; with_reducible rfl)
    simp only [List.setIfInBounds_toArray, List.set_cons_zero, List.set_cons_succ]
    refine wpAnyH_ready (rs := [19]) (by kernel_rfl) (by simp) ?_
    refine AllReadyH.cons rfl (fun K hK => ?_) AllReadyH.nil
    go_simp
    go_wp2_with (go_at_call 16; refine (HPUT.out _).mono ?_; intro e w5 h5; obtain ⟨a5, c5, n5, hn5, rfl, hI5, kx, _⟩ := OwnR.app (zs := []) (ys := putL q) Nw.refl h5; have hcv := cv8 (w := w5) c5 hn5.symm hI5; simp only [List.nil_append] at hcv; clear hn5 h5 hI5)
    refine hK.out _ _ ?_ (fun hHeld2 => ?_)
    · exact ⟨hHeld.1.nw kx, (kx.b.cell (p := ⟨w.heap.size + 1, 0, none⟩) (cell_lt hHeld.2.1).1).trans hHeld.2.1, (kx.b.cell (p := ⟨w.heap.size + 1, 1, none⟩) (cell_lt hHeld.2.2.1).1).trans hHeld.2.2.1, hHeld.2.2.2.trans kx⟩
    have hHeld := hHeld2
    clear hHeld2 hK K
    refine wpAnyH_ready (rs := [20]) (by kernel_rfl) (by simp) ?_
    refine AllReadyH.cons rfl (fun K hK => ?_) AllReadyH.nil
    go_simp
    refine hK.out _ _ ?_ (fun hHeld2 => ?_)
    · exact hHeld
    have hHeld := hHeld2
    clear hHeld2 hK K
    refine takeD (i := 23) (v := ?_) 97 rfl rfl ?_ ?_ ?_ (fun _ _ _ h => h) ?_ (by assumption) ?_
    rotate_left
    · kernel_rfl
    · kernel_rfl
    · kernel_rfl
    · refine Or.inl (And.intro ?_ ?_)
      · rfl
      · intro w hSw
        obtain ⟨⟨c0, c1, c2, c3, c4, c5, c6, c7, _⟩, e0, e1, eN⟩ := hSw
        have hcv0 := HCV.out w (HNC.out.trans eN)
        first | (go_simp; done) | (go_simp; with_reducible rfl)
    simp only [List.setIfInBounds_toArray, List.set_cons_zero, List.set_cons_succ]
    refine takeD (i := 24) (v := ?_) 98 rfl rfl ?_ ?_ ?_ (fun _ _ _ h => h) ?_ (by assumption) ?_
    rotate_left
    · kernel_rfl
    · kernel_rfl
    · kernel_rfl
    · refine Or.inl (And.intro ?_ ?_)
      · rfl
      · intro w hSw
        obtain ⟨⟨c0, c1, c2, c3, c4, c5, c6, c7, _⟩, e0, e1, eN⟩ := hSw
        have hcv0 := HCV.out w (HNC.out.trans eN)
        first | (go_simp; done) | (go_simp; with_reducible rfl)
    simp only [List.setIfInBounds_toArray, List.set_cons_zero, List.set_cons_succ]
    refine wpAnyH_done (by kernel_rfl) ?_ _
    refine NoPanic.normal ?_
    obtain ⟨hR, _, _, hNE⟩ := hHeld
    have HNE := Lib.hid (HNC.out.trans hNE)
    have HBE := Lib.hid (HBX.out.nw hNE)
    have HRE := Lib.hid hR
    clear hNE hR
    obtain ⟨kc0, kc1, kc2, kc3, kc4, kc5, kc6, kc7, kff⟩ := HBE.out
    have kf0 := kff 0
    have kf1 := kff 1
    have kf2 := kff 2
    have kf3 := kff 3
    have kf4 := kff 4
    have kf5 := kff 5
    have kf6 := kff 6
    have kf7 := kff 7
    clear kff
    dsimp only at kc0 kc1 kc2 kc3 kc4 kc5 kc6 kc7
    obtain ⟨q0, q1, q2, q3, q4, q5, q6, q7, _⟩ := HRE.out
    have R8 := Lib.hid (show RqAt _ _ q from (((((((HBE.out.set0 q.kind).set1 q.flags).set2 q.fd).set3 q.pos).set4 q.size).set5 q.path).set6 q.dst).set7 q.data)
    have U8 := Lib.hid ((((((((((Up.refl w.heap.size w5).set 0 (.int .u8 q.kind)).set 1 (.int .u8 q.flags)).set 2 (.int .u64 q.fd)).set 3 (.int .u64 q.pos)).set 4 (.int .u64 q.size)).set 5 (.string q.path)).set 6 (.string q.dst)).set 7 (.string q.data)))
    go_wp2_with fail
    refine bodyPost_ret (results_rq rfl _ _ w.heap.size q rfl R8.out) rfl ⟨?_, ⟨Up.below HNE.out.b U8.out HNE.out.b.size (Nat.le_refl _)⟩⟩
    obtain ⟨e1, e2⟩ := HYR.out (by rw [← HOK.out.1]; exact HF.out)
    rw [e1, e2, ← HOK.out.2.1 HF.out]; rfl
  · have HF := Lib.hid (show okR zs s = false from by rw [HOR.out, decide_eq_false he]; rfl)
    have hs : ((strOfNums (putL q)).toList == (strOfNums zs).toList) = false := by
      rw [beq_eq_false_iff_ne]
      exact fun h => he ((strOf_inj HBQ.out HZ.out).1 (ba_toList h))
    have hs2 : ((strOfNums (putL q)).toList != (strOfNums zs).toList) = true := by rw [bne, hs]; rfl
    clear he
    go_wp2_with fail
    refine wp_region_noPanic ?_
    refine wp_region_held_drew (S := (fun w' => RqAt w' qb q ∧ w'.cell? ⟨w.heap.size + 1, 0, none⟩ = some (.slice ta 0 tcap) ∧ w'.cell? ⟨w.heap.size + 1, 1, none⟩ = some (.bool false) ∧ Nw wc w')) (by kernel_rfl) ?_ (fun hHeld => ?_)
    · exact ⟨HRQ.out.nw Nw.refl.drew, HTS.out, HTC.out, Nw.refl.drew⟩
    refine takeD (i := 0) (v := ?_) 74 rfl rfl ?_ ?_ ?_ (fun _ _ _ h => h) ?_ (by assumption) ?_
    rotate_left
    · kernel_rfl
    · kernel_rfl
    · kernel_rfl
    · refine Or.inl (And.intro ?_ ?_)
      · rfl
      · intro w hSw
        obtain ⟨⟨c0, c1, c2, c3, c4, c5, c6, c7, _⟩, e0, e1, eN⟩ := hSw
        have hcv0 := HCV.out w (HNC.out.trans eN)
        first | (go_simp; done) | (go_simp; with_reducible rfl)
    simp only [List.setIfInBounds_toArray, List.set_cons_zero, List.set_cons_succ]
    refine takeD (i := 1) (v := ?_) 75 rfl rfl ?_ ?_ ?_ (fun _ _ _ h => h) ?_ (by assumption) ?_
    rotate_left
    · kernel_rfl
    · kernel_rfl
    · kernel_rfl
    · refine Or.inl (And.intro ?_ ?_)
      · rfl
      · intro w hSw
        obtain ⟨⟨c0, c1, c2, c3, c4, c5, c6, c7, _⟩, e0, e1, eN⟩ := hSw
        have hcv0 := HCV.out w (HNC.out.trans eN)
        first | (go_simp; done) | (go_simp; with_reducible rfl)
    simp only [List.setIfInBounds_toArray, List.set_cons_zero, List.set_cons_succ]
    refine takeD (i := 2) (v := ?_) 76 rfl rfl ?_ ?_ ?_ (fun _ _ _ h => h) ?_ (by assumption) ?_
    rotate_left
    · kernel_rfl
    · kernel_rfl
    · kernel_rfl
    · refine Or.inl (And.intro ?_ ?_)
      · rfl
      · intro w hSw
        obtain ⟨⟨c0, c1, c2, c3, c4, c5, c6, c7, _⟩, e0, e1, eN⟩ := hSw
        have hcv0 := HCV.out w (HNC.out.trans eN)
        first | (go_simp; done) | (go_simp; with_reducible rfl)
    simp only [List.setIfInBounds_toArray, List.set_cons_zero, List.set_cons_succ]
    refine takeD (i := 3) (v := ?_) 77 rfl rfl ?_ ?_ ?_ (fun _ _ _ h => h) ?_ (by assumption) ?_
    rotate_left
    · kernel_rfl
    · kernel_rfl
    · kernel_rfl
    · refine Or.inl (And.intro ?_ ?_)
      · rfl
      · intro w hSw
        obtain ⟨⟨c0, c1, c2, c3, c4, c5, c6, c7, _⟩, e0, e1, eN⟩ := hSw
        have hcv0 := HCV.out w (HNC.out.trans eN)
        first | (go_simp; done) | (go_simp; with_reducible rfl)
    simp only [List.setIfInBounds_toArray, List.set_cons_zero, List.set_cons_succ]
    refine takeD (i := 4) (v := ?_) 78 rfl rfl ?_ ?_ ?_ (fun _ _ _ h => h) ?_ (by assumption) ?_
    rotate_left
    · kernel_rfl
    · kernel_rfl
    · kernel_rfl
    · refine Or.inl (And.intro ?_ ?_)
      · rfl
      · intro w hSw
        obtain ⟨⟨c0, c1, c2, c3, c4, c5, c6, c7, _⟩, e0, e1, eN⟩ := hSw
        have hcv0 := HCV.out w (HNC.out.trans eN)
        first | (go_simp; done) | (go_simp; with_reducible rfl)
    simp only [List.setIfInBounds_toArray, List.set_cons_zero, List.set_cons_succ]
    refine takeD (i := 5) (v := ?_) 79 rfl rfl ?_ ?_ ?_ (fun _ _ _ h => h) ?_ (by assumption) ?_
    rotate_left
    · kernel_rfl
    · kernel_rfl
    · kernel_rfl
    · refine Or.inl (And.intro ?_ ?_)
      · rfl
      · intro w hSw
        obtain ⟨⟨c0, c1, c2, c3, c4, c5, c6, c7, _⟩, e0, e1, eN⟩ := hSw
        have hcv0 := HCV.out w (HNC.out.trans eN)
        first | (go_simp; done) | (go_simp; with_reducible rfl)
    simp only [List.setIfInBounds_toArray, List.set_cons_zero, List.set_cons_succ]
    refine takeD (i := 6) (v := ?_) 80 rfl rfl ?_ ?_ ?_ (fun _ _ _ h => h) ?_ (by assumption) ?_
    rotate_left
    · kernel_rfl
    · kernel_rfl
    · kernel_rfl
    · refine Or.inl (And.intro ?_ ?_)
      · rfl
      · intro w hSw
        obtain ⟨⟨c0, c1, c2, c3, c4, c5, c6, c7, _⟩, e0, e1, eN⟩ := hSw
        have hcv0 := HCV.out w (HNC.out.trans eN)
        first | (go_simp; done) | (go_simp; with_reducible rfl)
    simp only [List.setIfInBounds_toArray, List.set_cons_zero, List.set_cons_succ]
    refine takeD (i := 7) (v := ?_) 81 rfl rfl ?_ ?_ ?_ (fun _ _ _ h => h) ?_ (by assumption) ?_
    rotate_left
    · kernel_rfl
    · kernel_rfl
    · kernel_rfl
    · refine Or.inl (And.intro ?_ ?_)
      · rfl
      · intro w hSw
        obtain ⟨⟨c0, c1, c2, c3, c4, c5, c6, c7, _⟩, e0, e1, eN⟩ := hSw
        have hcv0 := HCV.out w (HNC.out.trans eN)
        first | (go_simp; done) | (go_simp; with_reducible rfl)
    simp only [List.setIfInBounds_toArray, List.set_cons_zero, List.set_cons_succ]
    refine takeD (i := 8) (v := ?_) 82 rfl rfl ?_ ?_ ?_ (fun _ _ _ h => h) ?_ (by assumption) ?_
    rotate_left
    · kernel_rfl
    · kernel_rfl
    · kernel_rfl
    · refine Or.inl (And.intro ?_ ?_)
      · rfl
      · intro w hSw
        obtain ⟨⟨c0, c1, c2, c3, c4, c5, c6, c7, _⟩, e0, e1, eN⟩ := hSw
        have hcv0 := HCV.out w (HNC.out.trans eN)
        first | (go_simp; done) | (go_simp; with_reducible rfl)
    simp only [List.setIfInBounds_toArray, List.set_cons_zero, List.set_cons_succ]
    refine takeD (i := 9) (v := ?_) 83 rfl rfl ?_ ?_ ?_ (fun _ _ _ h => h) ?_ (by assumption) ?_
    rotate_left
    · kernel_rfl
    · kernel_rfl
    · kernel_rfl
    · refine Or.inl (And.intro ?_ ?_)
      · rfl
      · intro w hSw
        obtain ⟨⟨c0, c1, c2, c3, c4, c5, c6, c7, _⟩, e0, e1, eN⟩ := hSw
        have hcv0 := HCV.out w (HNC.out.trans eN)
        first | (go_simp; done) | (go_simp; with_reducible rfl)
    simp only [List.setIfInBounds_toArray, List.set_cons_zero, List.set_cons_succ]
    refine takeD (i := 10) (v := ?_) 84 rfl rfl ?_ ?_ ?_ (fun _ _ _ h => h) ?_ (by assumption) ?_
    rotate_left
    · kernel_rfl
    · kernel_rfl
    · kernel_rfl
    · refine Or.inl (And.intro ?_ ?_)
      · rfl
      · intro w hSw
        obtain ⟨⟨c0, c1, c2, c3, c4, c5, c6, c7, _⟩, e0, e1, eN⟩ := hSw
        have hcv0 := HCV.out w (HNC.out.trans eN)
        first | (go_simp; done) | (go_simp; with_reducible rfl)
    simp only [List.setIfInBounds_toArray, List.set_cons_zero, List.set_cons_succ]
    refine takeD (i := 11) (v := ?_) 85 rfl rfl ?_ ?_ ?_ (fun _ _ _ h => h) ?_ (by assumption) ?_
    rotate_left
    · kernel_rfl
    · kernel_rfl
    · kernel_rfl
    · refine Or.inl (And.intro ?_ ?_)
      · rfl
      · intro w hSw
        obtain ⟨⟨c0, c1, c2, c3, c4, c5, c6, c7, _⟩, e0, e1, eN⟩ := hSw
        have hcv0 := HCV.out w (HNC.out.trans eN)
        first | (go_simp; done) | (go_simp; with_reducible rfl)
    simp only [List.setIfInBounds_toArray, List.set_cons_zero, List.set_cons_succ]
    refine takeD (i := 12) (v := ?_) 86 rfl rfl ?_ ?_ ?_ (fun _ _ _ h => h) ?_ (by assumption) ?_
    rotate_left
    · kernel_rfl
    · kernel_rfl
    · kernel_rfl
    · refine Or.inl (And.intro ?_ ?_)
      · rfl
      · intro w hSw
        obtain ⟨⟨c0, c1, c2, c3, c4, c5, c6, c7, _⟩, e0, e1, eN⟩ := hSw
        have hcv0 := HCV.out w (HNC.out.trans eN)
        first | (go_simp; done) | (go_simp; with_reducible rfl)
    simp only [List.setIfInBounds_toArray, List.set_cons_zero, List.set_cons_succ]
    refine takeD (i := 13) (v := ?_) 87 rfl rfl ?_ ?_ ?_ (fun _ _ _ h => h) ?_ (by assumption) ?_
    rotate_left
    · kernel_rfl
    · kernel_rfl
    · kernel_rfl
    · refine Or.inl (And.intro ?_ ?_)
      · rfl
      · intro w hSw
        obtain ⟨⟨c0, c1, c2, c3, c4, c5, c6, c7, _⟩, e0, e1, eN⟩ := hSw
        have hcv0 := HCV.out w (HNC.out.trans eN)
        first | (go_simp; done) | (go_simp; with_reducible rfl)
    simp only [List.setIfInBounds_toArray, List.set_cons_zero, List.set_cons_succ]
    refine wpAnyH_ready (rs := [14]) (by kernel_rfl) (by simp) ?_
    refine AllReadyH.cons rfl (fun K hK => ?_) AllReadyH.nil
    go_simp
    go_wp2_with (go_at_call 14; refine (HMC.out _).mono ?_; rintro e w4 ⟨rfl, kx⟩)
    refine hK.out _ _ ?_ (fun hHeld2 => ?_)
    · exact ⟨hHeld.1.nw kx, (kx.b.cell (p := ⟨w.heap.size + 1, 0, none⟩) (cell_lt hHeld.2.1).1).trans hHeld.2.1, (kx.b.cell (p := ⟨w.heap.size + 1, 1, none⟩) (cell_lt hHeld.2.2.1).1).trans hHeld.2.2.1, hHeld.2.2.2.trans kx⟩
    have hHeld := hHeld2
    clear hHeld2 hK K
    refine takeD (i := 15) (v := ?_) 89 rfl rfl ?_ ?_ ?_ (fun _ _ _ h => h) ?_ (by assumption) ?_
    rotate_left
    · kernel_rfl
    · kernel_rfl
    · kernel_rfl
    · refine Or.inl (And.intro ?_ ?_)
      · rfl
      · intro w hSw
        obtain ⟨⟨c0, c1, c2, c3, c4, c5, c6, c7, _⟩, e0, e1, eN⟩ := hSw
        have hcv0 := HCV.out w (HNC.out.trans eN)
        first | (go_simp; done) | (go_simp; with_reducible rfl)
    simp only [List.setIfInBounds_toArray, List.set_cons_zero, List.set_cons_succ]
    refine takeD (i := 16) (v := ?_) 90 rfl rfl ?_ ?_ ?_ (fun _ _ _ h => h) ?_ (by assumption) ?_
    rotate_left
    · kernel_rfl
    · kernel_rfl
    · kernel_rfl
    · refine Or.inl (And.intro ?_ ?_)
      · rfl
      · intro w hSw
        obtain ⟨⟨c0, c1, c2, c3, c4, c5, c6, c7, _⟩, e0, e1, eN⟩ := hSw
        have hcv0 := HCV.out w (HNC.out.trans eN)
        first | (go_simp; done) | (go_simp; with_reducible rfl)
    simp only [List.setIfInBounds_toArray, List.set_cons_zero, List.set_cons_succ]
    refine takeD (i := 17) (v := ?_) 91 rfl rfl ?_ ?_ ?_ (fun _ _ _ h => h) ?_ (by assumption) ?_
    rotate_left
    · kernel_rfl
    · kernel_rfl
    · kernel_rfl
    · refine Or.inl (And.intro ?_ ?_)
      · rfl
      · intro w hSw
        obtain ⟨⟨c0, c1, c2, c3, c4, c5, c6, c7, _⟩, e0, e1, eN⟩ := hSw
        have hcv0 := HCV.out w (HNC.out.trans eN)
        first | (go_simp; done) | (go_simp; with_reducible rfl)
    simp only [List.setIfInBounds_toArray, List.set_cons_zero, List.set_cons_succ]
    refine takeD (i := 18) (v := ?_) 92 rfl rfl ?_ ?_ ?_ (fun _ _ _ h => h) ?_ (by assumption) ?_
    rotate_left
    · kernel_rfl
    · kernel_rfl
    · kernel_rfl
    · refine Or.inl (And.intro ?_ ?_)
      · rfl
      · intro w hSw
        obtain ⟨⟨c0, c1, c2, c3, c4, c5, c6, c7, _⟩, e0, e1, eN⟩ := hSw
        have hcv0 := HCV.out w (HNC.out.trans eN)
        first | (go_simp; done) | (go_simp; with_reducible rfl)
    simp only [List.setIfInBounds_toArray, List.set_cons_zero, List.set_cons_succ]
    refine takeD (i := 21) (v := ?_) 95 rfl rfl ?_ ?_ ?_ (fun _ _ _ h => h) ?_ (by assumption) ?_
    rotate_left
    · kernel_rfl
    · kernel_rfl
    · kernel_rfl
    · refine Or.inl (And.intro ?_ ?_)
      · rfl
      · intro w hSw
        obtain ⟨⟨c0, c1, c2, c3, c4, c5, c6, c7, _⟩, e0, e1, eN⟩ := hSw
        have hcv0 := HCV.out w (HNC.out.trans eN)
        first | (go_simp; done) | (go_simp; with_reducible rfl)
    simp only [List.setIfInBounds_toArray, List.set_cons_zero, List.set_cons_succ]
    refine takeD (i := 22) (v := ?_) 96 rfl rfl ?_ ?_ ?_ (fun _ _ _ h => h) ?_ (by assumption) ?_
    rotate_left
    · kernel_rfl
    · kernel_rfl
    · kernel_rfl
    · refine Or.inl (And.intro ?_ ?_)
      · rfl
      · intro w hSw
        obtain ⟨⟨c0, c1, c2, c3, c4, c5, c6, c7, _⟩, e0, e1, eN⟩ := hSw
        have hcv0 := HCV.out w (HNC.out.trans eN)
        first | (go_simp; done) | (go_simp; with_reducible rfl)
    simp only [List.setIfInBounds_toArray, List.set_cons_zero, List.set_cons_succ]
    refine wpAnyH_ready (rs := [19]) (by kernel_rfl) (by simp) ?_
    refine AllReadyH.cons rfl (fun K hK => ?_) AllReadyH.nil
    go_simp
    go_wp2_with (go_at_call 16; refine (HPUT.out _).mono ?_; intro e w5 h5; obtain ⟨a5, c5, n5, hn5, rfl, hI5, kx, _⟩ := OwnR.app (zs := []) (ys := putL q) Nw.refl h5; have hcv := cv8 (w := w5) c5 hn5.symm hI5; simp only [List.nil_append] at hcv; clear hn5 h5 hI5)
    refine hK.out _ _ ?_ (fun hHeld2 => ?_)
    · exact ⟨hHeld.1.nw kx, (kx.b.cell (p := ⟨w.heap.size + 1, 0, none⟩) (cell_lt hHeld.2.1).1).trans hHeld.2.1, (kx.b.cell (p := ⟨w.heap.size + 1, 1, none⟩) (cell_lt hHeld.2.2.1).1).trans hHeld.2.2.1, hHeld.2.2.2.trans kx⟩
    have hHeld := hHeld2
    clear hHeld2 hK K
    refine wpAnyH_ready (rs := [20]) (by kernel_rfl) (by simp) ?_
    refine AllReadyH.cons rfl (fun K hK => ?_) AllReadyH.nil
    go_simp
    refine hK.out _ _ ?_ (fun hHeld2 => ?_)
    · exact hHeld
    have hHeld := hHeld2
    clear hHeld2 hK K
    refine takeD (i := 23) (v := ?_) 97 rfl rfl ?_ ?_ ?_ (fun _ _ _ h => h) ?_ (by assumption) ?_
    rotate_left
    · kernel_rfl
    · kernel_rfl
    · kernel_rfl
    · refine Or.inl (And.intro ?_ ?_)
      · rfl
      · intro w hSw
        obtain ⟨⟨c0, c1, c2, c3, c4, c5, c6, c7, _⟩, e0, e1, eN⟩ := hSw
        have hcv0 := HCV.out w (HNC.out.trans eN)
        first | (go_simp; done) | (go_simp; with_reducible rfl)
    simp only [List.setIfInBounds_toArray, List.set_cons_zero, List.set_cons_succ]
    refine takeD (i := 24) (v := ?_) 98 rfl rfl ?_ ?_ ?_ (fun _ _ _ h => h) ?_ (by assumption) ?_
    rotate_left
    · kernel_rfl
    · kernel_rfl
    · kernel_rfl
    · refine Or.inl (And.intro ?_ ?_)
      · rfl
      · intro w hSw
        obtain ⟨⟨c0, c1, c2, c3, c4, c5, c6, c7, _⟩, e0, e1, eN⟩ := hSw
        have hcv0 := HCV.out w (HNC.out.trans eN)
        first | (go_simp; done) | (go_simp; with_reducible rfl)
    simp only [List.setIfInBounds_toArray, List.set_cons_zero, List.set_cons_succ]
    refine wpAnyH_done (by kernel_rfl) ?_ _
    refine NoPanic.normal ?_
    obtain ⟨hR, _, _, hNE⟩ := hHeld
    have HNE := Lib.hid (HNC.out.trans hNE)
    have HBE := Lib.hid (HBX.out.nw hNE)
    have HRE := Lib.hid hR
    clear hNE hR
    obtain ⟨kc0, kc1, kc2, kc3, kc4, kc5, kc6, kc7, kff⟩ := HBE.out
    have kf0 := kff 0
    have kf1 := kff 1
    have kf2 := kff 2
    have kf3 := kff 3
    have kf4 := kff 4
    have kf5 := kff 5
    have kf6 := kff 6
    have kf7 := kff 7
    clear kff
    dsimp only at kc0 kc1 kc2 kc3 kc4 kc5 kc6 kc7
    have R8 := Lib.hid (show RqAt _ _ zeroRq from (((((((HBE.out.set0 0).set1 0).set2 0).set3 0).set4 0).set5 ⟨#[]⟩).set6 ⟨#[]⟩).set7 ⟨#[]⟩)
    have U8 := Lib.hid ((((((((((Up.refl w.heap.size w5).set 0 (.int .u8 0)).set 1 (.int .u8 0)).set 2 (.int .u64 0)).set 3 (.int .u64 0)).set 4 (.int .u64 0)).set 5 (.string ⟨#[]⟩)).set 6 (.string ⟨#[]⟩)).set 7 (.string ⟨#[]⟩)))
    go_wp2_with fail
    refine bodyPost_ret (results_rq rfl _ _ w.heap.size zeroRq rfl R8.out) rfl ⟨?_, ⟨Up.below HNE.out.b U8.out HNE.out.b.size (Nat.le_refl _)⟩⟩
    obtain ⟨e1, e2⟩ := HZR.out (by rw [← HOK.out.1]; exact HF.out)
    rw [e1, e2]; rfl

end Go.Proofs.Ytphcdndohdnolaa
