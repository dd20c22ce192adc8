/-
  REQUESTS IN MEMORY; THE WALKS OF THE FIELDS' FUNCTIONS.
-/
import Derived.Deep.RegionHeld3
import Derived.Test.YtphcdndohdnolaaRqM
import Derived.Test.YtphcdndohdnolaaRqE
namespace Go.Proofs.Ytphcdndohdnolaa
open Go.RowKit Go.Shelf
set_option linter.unusedVariables false

def rqV (r : Rq) : Value := .agg #[.int .u8 r.kind, .int .u8 r.flags, .int .u64 r.fd, .int .u64 r.pos, .int .u64 r.size, .string r.path, .string r.dst, .string r.data]
structure RqAt (w : World) (b : Nat) (r : Rq) : Prop where
  c0 : w.cell? ⟨b, 0, none⟩ = some (.int .u8 r.kind)
  c1 : w.cell? ⟨b, 1, none⟩ = some (.int .u8 r.flags)
  c2 : w.cell? ⟨b, 2, none⟩ = some (.int .u64 r.fd)
  c3 : w.cell? ⟨b, 3, none⟩ = some (.int .u64 r.pos)
  c4 : w.cell? ⟨b, 4, none⟩ = some (.int .u64 r.size)
  c5 : w.cell? ⟨b, 5, none⟩ = some (.string r.path)
  c6 : w.cell? ⟨b, 6, none⟩ = some (.string r.dst)
  c7 : w.cell? ⟨b, 7, none⟩ = some (.string r.data)
  f : ∀ k, w.frozen? ⟨b, k, none⟩ = false
theorem RqAt.lt {w : World} {b : Nat} {r : Rq} (h : RqAt w b r) : b < w.heap.size := (cell_lt h.c0).1
theorem RqAt.up {w w' : World} {b t : Nat} {r : Rq} (h : RqAt w b r) (k : Up t w w') (hb : b ≠ t) : RqAt w' b r :=
  ⟨k.cell h.c0 hb, k.cell h.c1 hb, k.cell h.c2 hb, k.cell h.c3 hb, k.cell h.c4 hb, k.cell h.c5 hb, k.cell h.c6 hb, k.cell h.c7 hb, fun i => (k.frozen (p := ⟨b, i, none⟩) h.lt hb).trans (h.f i)⟩
theorem RqAt.nw {w w' : World} {b : Nat} {r : Rq} (h : RqAt w b r) (k : Nw w w') : RqAt w' b r := h.up (t := w.heap.size) (.of_nw k) (Nat.ne_of_lt h.lt)
theorem RqAt.new (w : World) (r : Rq) : RqAt (w.alloc (.cells #[.int .u8 r.kind, .int .u8 r.flags, .int .u64 r.fd, .int .u64 r.pos, .int .u64 r.size, .string r.path, .string r.dst, .string r.data] 24)) w.heap.size r :=
  ⟨by simp [go_sem], by simp [go_sem], by simp [go_sem], by simp [go_sem], by simp [go_sem], by simp [go_sem], by simp [go_sem], by simp [go_sem], fun k => by simp [go_sem]⟩
theorem RqAt.set_other (w : World) (b k j : Nat) (v x : Value) (hk : k ≠ j) (h : w.cell? ⟨b, k, none⟩ = some x) : (w.setCell ⟨b, j, none⟩ v).cell? ⟨b, k, none⟩ = some x :=
  (World.cell?_setCell_other w ⟨b, j, none⟩ ⟨b, k, none⟩ v (by intro hh; cases hh; exact hk rfl)).trans h
theorem RqAt.set0 {w : World} {b : Nat} {r : Rq} (h : RqAt w b r) (x : Int) : RqAt (w.setCell ⟨b, 0, none⟩ (.int .u8 x)) b { r with kind := x } :=
  ⟨World.cell?_setCell_same' w ⟨b, 0, none⟩ _ (by rw [h.c0]; rfl), RqAt.set_other w b 1 0 _ _ (by decide) h.c1, RqAt.set_other w b 2 0 _ _ (by decide) h.c2, RqAt.set_other w b 3 0 _ _ (by decide) h.c3, RqAt.set_other w b 4 0 _ _ (by decide) h.c4, RqAt.set_other w b 5 0 _ _ (by decide) h.c5, RqAt.set_other w b 6 0 _ _ (by decide) h.c6, RqAt.set_other w b 7 0 _ _ (by decide) h.c7, fun k => by rw [World.frozen?_setCell]; exact h.f k⟩
theorem RqAt.set1 {w : World} {b : Nat} {r : Rq} (h : RqAt w b r) (x : Int) : RqAt (w.setCell ⟨b, 1, none⟩ (.int .u8 x)) b { r with flags := x } :=
  ⟨RqAt.set_other w b 0 1 _ _ (by decide) h.c0, World.cell?_setCell_same' w ⟨b, 1, none⟩ _ (by rw [h.c1]; rfl), RqAt.set_other w b 2 1 _ _ (by decide) h.c2, RqAt.set_other w b 3 1 _ _ (by decide) h.c3, RqAt.set_other w b 4 1 _ _ (by decide) h.c4, RqAt.set_other w b 5 1 _ _ (by decide) h.c5, RqAt.set_other w b 6 1 _ _ (by decide) h.c6, RqAt.set_other w b 7 1 _ _ (by decide) h.c7, fun k => by rw [World.frozen?_setCell]; exact h.f k⟩
theorem RqAt.set2 {w : World} {b : Nat} {r : Rq} (h : RqAt w b r) (x : Int) : RqAt (w.setCell ⟨b, 2, none⟩ (.int .u64 x)) b { r with fd := x } :=
  ⟨RqAt.set_other w b 0 2 _ _ (by decide) h.c0, RqAt.set_other w b 1 2 _ _ (by decide) h.c1, World.cell?_setCell_same' w ⟨b, 2, none⟩ _ (by rw [h.c2]; rfl), RqAt.set_other w b 3 2 _ _ (by decide) h.c3, RqAt.set_other w b 4 2 _ _ (by decide) h.c4, RqAt.set_other w b 5 2 _ _ (by decide) h.c5, RqAt.set_other w b 6 2 _ _ (by decide) h.c6, RqAt.set_other w b 7 2 _ _ (by decide) h.c7, fun k => by rw [World.frozen?_setCell]; exact h.f k⟩
theorem RqAt.set3 {w : World} {b : Nat} {r : Rq} (h : RqAt w b r) (x : Int) : RqAt (w.setCell ⟨b, 3, none⟩ (.int .u64 x)) b { r with pos := x } :=
  ⟨RqAt.set_other w b 0 3 _ _ (by decide) h.c0, RqAt.set_other w b 1 3 _ _ (by decide) h.c1, RqAt.set_other w b 2 3 _ _ (by decide) h.c2, World.cell?_setCell_same' w ⟨b, 3, none⟩ _ (by rw [h.c3]; rfl), RqAt.set_other w b 4 3 _ _ (by decide) h.c4, RqAt.set_other w b 5 3 _ _ (by decide) h.c5, RqAt.set_other w b 6 3 _ _ (by decide) h.c6, RqAt.set_other w b 7 3 _ _ (by decide) h.c7, fun k => by rw [World.frozen?_setCell]; exact h.f k⟩
theorem RqAt.set4 {w : World} {b : Nat} {r : Rq} (h : RqAt w b r) (x : Int) : RqAt (w.setCell ⟨b, 4, none⟩ (.int .u64 x)) b { r with size := x } :=
  ⟨RqAt.set_other w b 0 4 _ _ (by decide) h.c0, RqAt.set_other w b 1 4 _ _ (by decide) h.c1, RqAt.set_other w b 2 4 _ _ (by decide) h.c2, RqAt.set_other w b 3 4 _ _ (by decide) h.c3, World.cell?_setCell_same' w ⟨b, 4, none⟩ _ (by rw [h.c4]; rfl), RqAt.set_other w b 5 4 _ _ (by decide) h.c5, RqAt.set_other w b 6 4 _ _ (by decide) h.c6, RqAt.set_other w b 7 4 _ _ (by decide) h.c7, fun k => by rw [World.frozen?_setCell]; exact h.f k⟩
theorem RqAt.set5 {w : World} {b : Nat} {r : Rq} (h : RqAt w b r) (x : ByteArray) : RqAt (w.setCell ⟨b, 5, none⟩ (.string x)) b { r with path := x } :=
  ⟨RqAt.set_other w b 0 5 _ _ (by decide) h.c0, RqAt.set_other w b 1 5 _ _ (by decide) h.c1, RqAt.set_other w b 2 5 _ _ (by decide) h.c2, RqAt.set_other w b 3 5 _ _ (by decide) h.c3, RqAt.set_other w b 4 5 _ _ (by decide) h.c4, World.cell?_setCell_same' w ⟨b, 5, none⟩ _ (by rw [h.c5]; rfl), RqAt.set_other w b 6 5 _ _ (by decide) h.c6, RqAt.set_other w b 7 5 _ _ (by decide) h.c7, fun k => by rw [World.frozen?_setCell]; exact h.f k⟩
theorem RqAt.set6 {w : World} {b : Nat} {r : Rq} (h : RqAt w b r) (x : ByteArray) : RqAt (w.setCell ⟨b, 6, none⟩ (.string x)) b { r with dst := x } :=
  ⟨RqAt.set_other w b 0 6 _ _ (by decide) h.c0, RqAt.set_other w b 1 6 _ _ (by decide) h.c1, RqAt.set_other w b 2 6 _ _ (by decide) h.c2, RqAt.set_other w b 3 6 _ _ (by decide) h.c3, RqAt.set_other w b 4 6 _ _ (by decide) h.c4, RqAt.set_other w b 5 6 _ _ (by decide) h.c5, World.cell?_setCell_same' w ⟨b, 6, none⟩ _ (by rw [h.c6]; rfl), RqAt.set_other w b 7 6 _ _ (by decide) h.c7, fun k => by rw [World.frozen?_setCell]; exact h.f k⟩
theorem RqAt.set7 {w : World} {b : Nat} {r : Rq} (h : RqAt w b r) (x : ByteArray) : RqAt (w.setCell ⟨b, 7, none⟩ (.string x)) b { r with data := x } :=
  ⟨RqAt.set_other w b 0 7 _ _ (by decide) h.c0, RqAt.set_other w b 1 7 _ _ (by decide) h.c1, RqAt.set_other w b 2 7 _ _ (by decide) h.c2, RqAt.set_other w b 3 7 _ _ (by decide) h.c3, RqAt.set_other w b 4 7 _ _ (by decide) h.c4, RqAt.set_other w b 5 7 _ _ (by decide) h.c5, RqAt.set_other w b 6 7 _ _ (by decide) h.c6, World.cell?_setCell_same' w ⟨b, 7, none⟩ _ (by rw [h.c7]; rfl), fun k => by rw [World.frozen?_setCell]; exact h.f k⟩

/-- To which cell a field's function goes. -/
def offF : Fd → Nat
  | .path => 5
  | .dst => 6
  | .data => 7
  | .fd => 2
  | .pos => 3
  | .size => 4
  | .flags => 1
def ofF : Fd → Nat
  | .path => 40
  | .dst => 41
  | .data => 42
  | .fd => 44
  | .pos => 45
  | .size => 46
  | .flags => 0

set_option maxHeartbeats 1000000 in
theorem of_path (b : Nat) (w : World) : Calls Try.prog 40 #[.pointer (some ⟨b, 0, none⟩)] w fun e w' => e = .returned (.pointer (some ⟨b, 5, none⟩)) ∧ w = w' := by
  go_enter Try.func40, Try.ntmps40
  go_wp2_with fail
  go_ret
  exact ⟨rfl, rfl⟩

set_option maxHeartbeats 1000000 in
theorem of_dst (b : Nat) (w : World) : Calls Try.prog 41 #[.pointer (some ⟨b, 0, none⟩)] w fun e w' => e = .returned (.pointer (some ⟨b, 6, none⟩)) ∧ w = w' := by
  go_enter Try.func41, Try.ntmps41
  go_wp2_with fail
  go_ret
  exact ⟨rfl, rfl⟩

set_option maxHeartbeats 1000000 in
theorem of_data (b : Nat) (w : World) : Calls Try.prog 42 #[.pointer (some ⟨b, 0, none⟩)] w fun e w' => e = .returned (.pointer (some ⟨b, 7, none⟩)) ∧ w = w' := by
  go_enter Try.func42, Try.ntmps42
  go_wp2_with fail
  go_ret
  exact ⟨rfl, rfl⟩

set_option maxHeartbeats 1000000 in
theorem of_fd (b : Nat) (w : World) : Calls Try.prog 44 #[.pointer (some ⟨b, 0, none⟩)] w fun e w' => e = .returned (.pointer (some ⟨b, 2, none⟩)) ∧ w = w' := by
  go_enter Try.func44, Try.ntmps44
  go_wp2_with fail
  go_ret
  exact ⟨rfl, rfl⟩

set_option maxHeartbeats 1000000 in
theorem of_pos (b : Nat) (w : World) : Calls Try.prog 45 #[.pointer (some ⟨b, 0, none⟩)] w fun e w' => e = .returned (.pointer (some ⟨b, 3, none⟩)) ∧ w = w' := by
  go_enter Try.func45, Try.ntmps45
  go_wp2_with fail
  go_ret
  exact ⟨rfl, rfl⟩

set_option maxHeartbeats 1000000 in
theorem of_size (b : Nat) (w : World) : Calls Try.prog 46 #[.pointer (some ⟨b, 0, none⟩)] w fun e w' => e = .returned (.pointer (some ⟨b, 4, none⟩)) ∧ w = w' := by
  go_enter Try.func46, Try.ntmps46
  go_wp2_with fail
  go_ret
  exact ⟨rfl, rfl⟩

theorem of_any {f : Fd} (hf : f ≠ .flags) (b : Nat) (w : World) : Calls Try.prog (ofF f) #[.pointer (some ⟨b, 0, none⟩)] w fun e w' => e = .returned (.pointer (some ⟨b, offF f, none⟩)) ∧ w = w' := by
  cases f
  · exact of_path b w
  · exact absurd rfl hf
  · exact of_fd b w
  · exact of_pos b w
  · exact of_size b w
  · exact of_dst b w
  · exact of_data b w

theorem callFunc_enter {P : Program} {F : FuncId} {fn : Func} (hf : P.funcs[F]? = some fn) (hn : (fn.name == "runtime.NumGoroutine") = false) (hb : fn.body.isNone = false) (args : Array Value) (w : World) : (callFunc F args).run P w = .ok (.enter F args) w := by
  simp only [callFunc, Sem.run_bind, run_program, Result.andThen_ok, hf, hn, hb, Bool.false_eq_true, if_false, Sem.run_pure]
theorem enter_any {f : Fd} (hf : f ≠ .flags) (args : Array Value) (w : World) : (callFunc (ofF f) args).run Try.prog w = .ok (.enter (ofF f) args) w := by
  cases f
  · exact callFunc_enter Try.func40 (by decide +kernel) rfl args w
  · exact absurd rfl hf
  · exact callFunc_enter Try.func44 (by decide +kernel) rfl args w
  · exact callFunc_enter Try.func45 (by decide +kernel) rfl args w
  · exact callFunc_enter Try.func46 (by decide +kernel) rfl args w
  · exact callFunc_enter Try.func41 (by decide +kernel) rfl args w
  · exact callFunc_enter Try.func42 (by decide +kernel) rfl args w

/-- Two functions are a field's. -/
def FieldIs (lo : Nat) (w : World) (f : Fd) (p g : Value) : Prop :=
  match f with
  | .flags => p = .func (.func 47) #[] #[] ∧ g = .func (.func 48) #[] #[]
  | f => if isTxt f then ∃ B2 B : Nat, lo ≤ B2 ∧ lo ≤ B ∧ p = .func (.func 50) #[] #[.pointer (some ⟨B, 0, none⟩)] ∧ g = .func (.func 51) #[] #[.pointer (some ⟨B2, 0, none⟩), .pointer (some ⟨B, 0, none⟩)] ∧ w.cell? ⟨B, 0, none⟩ = some (.func (.func (ofF f)) #[] #[]) ∧ w.cell? ⟨B2, 0, none⟩ = some (.int .i64 (txtMost f))
    else ∃ B : Nat, lo ≤ B ∧ p = .func (.func 53) #[] #[.pointer (some ⟨B, 0, none⟩)] ∧ g = .func (.func 54) #[] #[.pointer (some ⟨B, 0, none⟩)] ∧ w.cell? ⟨B, 0, none⟩ = some (.func (.func (ofF f)) #[] #[])

theorem own_mono {w : World} {base b2 : Nat} {e : TypeId} {size : Nat} {v : Value} {n : Nat} {xs : List Value} (hb : b2 ≤ base) (h : w.ownsRow base e size v n xs) : w.ownsRow b2 e size v n xs := by
  obtain ⟨h1, h2⟩ := h
  refine ⟨h1, ?_⟩
  rcases h2 with h2 | ⟨g, cap, cur, hv, hg, r⟩
  · exact .inl h2
  · exact .inr ⟨g, cap, cur, hv, Nat.le_trans hb hg, r⟩
theorem OwnR.mono {A B w' : World} {zs : List Int} {e : Ending} (hN : Nw A B) (h : OwnR B zs e w') : OwnR A zs e w' := by
  obtain ⟨v, h1, h2, h3⟩ := h
  exact ⟨v, h1, own_mono hN.b.size h2, hN.trans h3⟩
set_option maxHeartbeats 2000000 in
theorem put_text (f : Fd) (hf : f ≠ .flags) (s : ByteArray) (r : Rq) (hc : ∀ W b, RqAt W b r → W.cell? ⟨b, offF f, none⟩ = some (.string s)) (B : Nat) (w : World) (hB : w.cell? ⟨B, 0, none⟩ = some (.func (.func (ofF f)) #[] #[]))
    (a : Option Addr) (len cap : Nat) (zs : List Int) (hl : zs.length = len) (hreach : len + s.size ≤ 140737488353000) (hI : Ints w.heap.size .u8 w a zs) :
    Calls Try.prog 50 #[.slice a len cap, rqV r, .pointer (some ⟨B, 0, none⟩)] w (OwnR w (zs ++ txtB s)) := by
  have HOF := Lib.hid (fun b w => of_any hf b w)
  have hcf := fun args w => enter_any hf args w
  have hlt := (cell_lt hB).1
  have hN : Nw w (w.alloc (.cells #[.int .u8 r.kind, .int .u8 r.flags, .int .u64 r.fd, .int .u64 r.pos, .int .u64 r.size, .string r.path, .string r.dst, .string r.data] 24)) := Nw.refl.alloc _
  have hcell := hc _ _ (RqAt.new w r)
  have HT := Lib.hid (text_any a len cap zs s hl hreach _ (hN.ints hI))
  have HN := Lib.hid hN
  generalize hW : w.alloc (.cells #[.int .u8 r.kind, .int .u8 r.flags, .int .u64 r.fd, .int .u64 r.pos, .int .u64 r.size, .string r.path, .string r.dst, .string r.data] 24) = W at hcell HT HN
  have hB1 : W.cell? ⟨B, 0, none⟩ = some (.func (.func (ofF f)) #[] #[]) := (HN.out.b.cell (p := ⟨B, 0, none⟩) hlt).trans hB
  generalize ofF f = N at HOF hB1 hB hcf
  generalize offF f = k at HOF hcell
  clear hc hI hf hB hl hN
  unfold rqV
  go_enter Try.func50, Try.ntmps50
  go_upto_region 1 with fail
  clear hW
  go_wp2_with fail
  refine (HOF.out _ _).mono ?_
  rintro e w' ⟨rfl, rfl⟩
  go_wp2_with fail
  refine HT.out.mono ?_
  rintro e w1 ⟨v1, rfl, ho1, hw1⟩
  go_wp2_with fail
  go_ret
  exact OwnR.mono HN.out ⟨v1, rfl, ho1, hw1⟩

set_option maxHeartbeats 2000000 in
theorem put_num (f : Fd) (hf : f ≠ .flags) (n : Nat) (hn : (n : Int) ≤ 18446744073709551615) (r : Rq) (hc : ∀ W b, RqAt W b r → W.cell? ⟨b, offF f, none⟩ = some (.int .u64 (n : Int))) (B : Nat) (w : World) (hB : w.cell? ⟨B, 0, none⟩ = some (.func (.func (ofF f)) #[] #[]))
    (a : Option Addr) (len cap : Nat) (zs : List Int) (hl : zs.length = len) (hreach : len ≤ 140737488353000) (hI : Ints w.heap.size .u8 w a zs) :
    Calls Try.prog 53 #[.slice a len cap, rqV r, .pointer (some ⟨B, 0, none⟩)] w (OwnR w (zs ++ numL n)) := by
  have HOF := Lib.hid (fun b w => of_any hf b w)
  have hcf := fun args w => enter_any hf args w
  have hlt := (cell_lt hB).1
  have hN : Nw w (w.alloc (.cells #[.int .u8 r.kind, .int .u8 r.flags, .int .u64 r.fd, .int .u64 r.pos, .int .u64 r.size, .string r.path, .string r.dst, .string r.data] 24)) := Nw.refl.alloc _
  have hcell := hc _ _ (RqAt.new w r)
  have HT := Lib.hid (number_any a len cap zs hl (by omega) n hn _ (hN.ints hI))
  have HN := Lib.hid hN
  generalize hW : w.alloc (.cells #[.int .u8 r.kind, .int .u8 r.flags, .int .u64 r.fd, .int .u64 r.pos, .int .u64 r.size, .string r.path, .string r.dst, .string r.data] 24) = W at hcell HT HN
  have hB1 : W.cell? ⟨B, 0, none⟩ = some (.func (.func (ofF f)) #[] #[]) := (HN.out.b.cell (p := ⟨B, 0, none⟩) hlt).trans hB
  generalize ofF f = N at HOF hB1 hB hcf
  generalize offF f = k at HOF hcell
  clear hc hI hf hB hl hN
  unfold rqV
  go_enter Try.func53, Try.ntmps53
  go_upto_region 1 with fail
  clear hW
  go_wp2_with fail
  refine (HOF.out _ _).mono ?_
  rintro e w' ⟨rfl, rfl⟩
  go_wp2_with fail
  refine HT.out.mono ?_
  rintro e w1 ⟨v1, rfl, ho1, hw1⟩
  go_wp2_with fail
  go_ret
  exact OwnR.mono HN.out ⟨v1, rfl, ho1, hw1⟩

set_option maxHeartbeats 2000000 in
theorem put_flags (r : Rq) (hr : isByte r.flags) (w : World) (a : Option Addr) (len cap : Nat) (zs : List Int) (hl : zs.length = len) (hreach : len ≤ 140737488353000) (hI : Ints w.heap.size .u8 w a zs) :
    Calls Try.prog 47 #[.slice a len cap, rqV r] w (OwnR w (zs ++ numL r.flags.toNat)) := by
  obtain ⟨f0, f1⟩ := hr
  have hN : Nw w (w.alloc (.cells #[.int .u8 r.kind, .int .u8 r.flags, .int .u64 r.fd, .int .u64 r.pos, .int .u64 r.size, .string r.path, .string r.dst, .string r.data] 24)) := Nw.refl.alloc _
  have hcell := (RqAt.new w r).c1
  obtain ⟨n, hn⟩ : ∃ n : Nat, r.flags = (n : Int) := ⟨r.flags.toNat, by omega⟩
  have HT := Lib.hid (number_any a len cap zs hl (by omega) n (by omega) _ (hN.ints hI))
  have HN := Lib.hid hN
  have hn1 : (n : Int) ≤ 255 := by omega
  have HNN := Lib.hid (show r.flags.toNat = n from by omega)
  generalize hW : w.alloc (.cells #[.int .u8 r.kind, .int .u8 r.flags, .int .u64 r.fd, .int .u64 r.pos, .int .u64 r.size, .string r.path, .string r.dst, .string r.data] 24) = W at hcell HT HN
  rw [hn] at hcell
  clear hI hl hN f0 f1 hn
  unfold rqV
  go_enter Try.func47, Try.ntmps47
  go_upto_region 1 with fail
  clear hW
  go_wp2_with fail
  refine HT.out.mono ?_
  rintro e w1 ⟨v1, rfl, ho1, hw1⟩
  go_wp2_with fail
  go_ret
  rw [HNN.out]
  exact OwnR.mono HN.out ⟨v1, rfl, ho1, hw1⟩

/-- Only new memory, and two blocks. -/
structure Up2 (t b : Nat) (w w' : World) : Prop where
  os : w'.os = w.os
  tape : w'.tape = w.tape
  output : w'.output = w.output
  size : w.heap.size ≤ w'.heap.size
  block : ∀ k, k < w.heap.size → k ≠ t → k ≠ b → w'.heap[k]? = w.heap[k]?
theorem Up2.refl (t b : Nat) (w : World) : Up2 t b w w := ⟨rfl, rfl, rfl, Nat.le_refl _, fun _ _ _ _ => rfl⟩
theorem Up2.trans {t b : Nat} {x y z : World} (h : Up2 t b x y) (k : Up2 t b y z) : Up2 t b x z :=
  ⟨k.os.trans h.os, k.tape.trans h.tape, k.output.trans h.output, Nat.le_trans h.size k.size, fun i hi h1 h2 => (k.block i (Nat.lt_of_lt_of_le hi h.size) h1 h2).trans (h.block i hi h1 h2)⟩
theorem Up2.l {t b : Nat} {x y : World} (h : Up t x y) : Up2 t b x y := ⟨h.os, h.tape, h.output, h.size, fun i hi h1 _ => h.block i hi h1⟩
theorem Up2.r {t b : Nat} {x y : World} (h : Up b x y) : Up2 t b x y := ⟨h.os, h.tape, h.output, h.size, fun i hi _ h2 => h.block i hi h2⟩
theorem Up2.cell {t b : Nat} {x y : World} (h : Up2 t b x y) {p : Addr} {v : Value} (hc : x.cell? p = some v) (h1 : p.block ≠ t) (h2 : p.block ≠ b) : y.cell? p = some v :=
  (World.cell?_of_block (w := x) (h.block p.block (cell_lt hc).1 h1 h2)).trans hc
theorem Up2.below {t b B : Nat} {w0 x y : World} (k : Below B w0 x) (h : Up2 t b x y) (hB : B ≤ x.heap.size) (h1 : B ≤ t) (h2 : B ≤ b) : Below B w0 y :=
  k.trans ⟨h.os, h.tape, h.output, h.size, fun i hi => h.block i (by omega) (by omega) (by omega)⟩

theorem RqAt.setT {w : World} {b : Nat} {r : Rq} (h : RqAt w b r) {f : Fd} (hf : isTxt f = true) (s : ByteArray) : RqAt (w.setCell ⟨b, offF f, none⟩ (.string s)) b (setTxt r s f) := by
  cases f <;> first | (cases hf; done) | exact h.set5 s | exact h.set6 s | exact h.set7 s
theorem RqAt.setN {w : World} {b : Nat} {r : Rq} (h : RqAt w b r) {f : Fd} (hf : isTxt f = false) (hf2 : f ≠ .flags) (n : Int) : RqAt (w.setCell ⟨b, offF f, none⟩ (.int .u64 n)) b (setNum r n f) := by
  cases f <;> first | (cases hf; done) | exact absurd rfl hf2 | exact h.set2 n | exact h.set3 n | exact h.set4 n
theorem RqAt.has {w : World} {b : Nat} {r : Rq} (h : RqAt w b r) (f : Fd) : ∃ v, w.cell? ⟨b, offF f, none⟩ = some v := by
  cases f
  · exact ⟨_, h.c5⟩
  · exact ⟨_, h.c1⟩
  · exact ⟨_, h.c2⟩
  · exact ⟨_, h.c3⟩
  · exact ⟨_, h.c4⟩
  · exact ⟨_, h.c6⟩
  · exact ⟨_, h.c7⟩

theorem cell_apart (W : World) (b b' j j' : Nat) (hb : b ≠ b') (v : Value) : (W.setCell ⟨b', j', none⟩ v).cell? ⟨b, j, none⟩ = W.cell? ⟨b, j, none⟩ :=
  World.cell?_setCell_other W ⟨b', j', none⟩ ⟨b, j, none⟩ v (by intro hh; cases hh; exact hb rfl)

/-- What a field's reading tells. -/
def GetP (f : Fd) (t b : Nat) (L : Nat) (s : Rd) (w : World) (e : Ending) (w' : World) : Prop :=
  e = .returned (.tuple #[]) ∧ TapeL w' t (get1 s f).zs (get1 s f).torn L ∧ RqAt w' b (get1 s f).r ∧ Up2 t b w w'

set_option maxHeartbeats 2000000 in
theorem get_text (f : Fd) (hf : isTxt f = true) (s : Rd) (t b L : Nat) (hbL : b < L) (hbt : b ≠ t) (B2 B : Nat) (h2 : B2 ≠ t) (h1 : B ≠ t) (h2b : B2 ≠ b) (h1b : B ≠ b) (w : World) (hT : TapeL w t s.zs s.torn L) (hR : RqAt w b s.r)
    (hB : w.cell? ⟨B, 0, none⟩ = some (.func (.func (ofF f)) #[] #[])) (hB2 : w.cell? ⟨B2, 0, none⟩ = some (.int .i64 (txtMost f))) :
    Calls Try.prog 51 #[.pointer (some ⟨t, 0, none⟩), .pointer (some ⟨b, 0, none⟩), .pointer (some ⟨B2, 0, none⟩), .pointer (some ⟨B, 0, none⟩)] w (GetP f t b L s w) := by
  have hff : f ≠ .flags := by rintro rfl; cases hf
  have HOF := Lib.hid (fun b w => of_any hff b w)
  have hcf := fun args w => enter_any hff args w
  have hm : txtMost f ≤ 9223372036854775807 := by cases f <;> decide
  have HT := Lib.hid (fun (X : World) (h : TapeL X t s.zs s.torn L) => ttext_tl t s.zs s.torn L (txtMost f) hm X h)
  have HG : Hid (get1 s f = ⟨(stepT s.zs s.torn (txtS s.zs (txtMost f))).1, (stepT s.zs s.torn (txtS s.zs (txtMost f))).2, setTxt s.r (txtR s.zs s.torn (txtMost f)) f⟩) := by unfold get1; exact if_pos hf
  have HST := Lib.hid (fun (W : World) (h : RqAt W b s.r) (x : ByteArray) => h.setT hf x)
  have HHAS := Lib.hid (fun (W : World) (h : RqAt W b s.r) => h.has f)
  have HTT := Lib.hid hT
  have HRR := Lib.hid hR
  generalize txtR s.zs s.torn (txtMost f) = V at HT HG
  generalize stepT s.zs s.torn (txtS s.zs (txtMost f)) = S at HT HG
  generalize txtMost f = m at HT hB2
  generalize ofF f = N at HOF hB hcf
  generalize offF f = k at HOF HST HHAS
  clear hT hR hf hff hm
  go_enter Try.func51, Try.ntmps51
  go_wp2_with fail
  go_region_held3 (fun w' => w'.cell? ⟨B, 0, none⟩ = some (.func (.func N) #[] #[]) ∧ w'.cell? ⟨B2, 0, none⟩ = some (.int .i64 m))
    (first | (exact ⟨hB, hB2⟩) | (exact ⟨k1, k2⟩) | (exact ⟨(cell_apart _ _ _ _ _ h1b _).trans k1, (cell_apart _ _ _ _ _ h2b _).trans k2⟩))
    ((first
      | (refine (HOF.out _ _).mono ?_; rintro e w' ⟨rfl, rfl⟩)
      | (go_at_call 52; refine (HT.out _ (HTT.out.nw Nw.refl.drew)).mono ?_; rintro e w5 ⟨rfl, hT5, hU5⟩; have k1 := hU5.cell (show w.drew.cell? ⟨B, 0, none⟩ = _ from hB) h1; have k2 := hU5.cell (show w.drew.cell? ⟨B2, 0, none⟩ = _ from hB2) h2; have hR5 := (HRR.out.nw Nw.refl.drew).up hU5 hbt; obtain ⟨u5, c5⟩ := HHAS.out _ hR5; have f5 := hR5.f k)))
  go_end0
  rw [show GetP f t b L s w = fun e w' => e = .returned (.tuple #[]) ∧ TapeL w' t (get1 s f).zs (get1 s f).torn L ∧ RqAt w' b (get1 s f).r ∧ Up2 t b w w' from rfl, HG.out]
  have hub : Up b w5 (w5.setCell ⟨b, k, none⟩ (.string V)) := (Up.refl b w5).set k _
  exact ⟨rfl, hT5.other hub hbt hbL, HST.out _ hR5 V, ((Up2.l (Up.of_nw Nw.refl.drew)).trans (Up2.l hU5)).trans (Up2.r hub)⟩

set_option maxHeartbeats 2000000 in
theorem get_num (f : Fd) (hf : isTxt f = false) (hff : f ≠ .flags) (s : Rd) (t b L : Nat) (hbL : b < L) (hbt : b ≠ t) (B : Nat) (h1 : B ≠ t) (w : World) (hT : TapeL w t s.zs s.torn L) (hR : RqAt w b s.r)
    (hB : w.cell? ⟨B, 0, none⟩ = some (.func (.func (ofF f)) #[] #[])) :
    Calls Try.prog 54 #[.pointer (some ⟨t, 0, none⟩), .pointer (some ⟨b, 0, none⟩), .pointer (some ⟨B, 0, none⟩)] w (GetP f t b L s w) := by
  have HOF := Lib.hid (fun b w => of_any hff b w)
  have hcf := fun args w => enter_any hff args w
  have HT := Lib.hid (tnumber_tl t s.zs s.torn L w hT)
  have HG : Hid (get1 s f = ⟨(stepT s.zs s.torn (numS s.zs)).1, (stepT s.zs s.torn (numS s.zs)).2, setNum s.r (numR s.zs s.torn) f⟩) := by unfold get1; exact if_neg (by rw [hf]; decide)
  have HST := Lib.hid (fun (W : World) (h : RqAt W b s.r) (x : Int) => h.setN hf hff x)
  have HHAS := Lib.hid (fun (W : World) (h : RqAt W b s.r) => h.has f)
  have HRR := Lib.hid hR
  generalize numR s.zs s.torn = V at HT HG
  generalize stepT s.zs s.torn (numS s.zs) = S at HT HG
  generalize ofF f = N at HOF hB hcf
  generalize offF f = k at HOF HST HHAS
  clear hT hR hf hff
  go_enter Try.func54, Try.ntmps54
  go_wp2_with fail
  refine (HOF.out _ _).mono ?_
  rintro e w' ⟨rfl, rfl⟩
  go_wp2_with fail
  refine HT.out.mono ?_
  rintro e w5 ⟨rfl, hT5, hU5⟩
  have hR5 := HRR.out.up hU5 hbt
  obtain ⟨u5, c5⟩ := HHAS.out _ hR5
  have f5 := hR5.f k
  go_wp2_with fail
  go_end0
  rw [show GetP f t b L s w = fun e w' => e = .returned (.tuple #[]) ∧ TapeL w' t (get1 s f).zs (get1 s f).torn L ∧ RqAt w' b (get1 s f).r ∧ Up2 t b w w' from rfl, HG.out]
  have hub : Up b w5 (w5.setCell ⟨b, k, none⟩ (.int .u64 V)) := (Up.refl b w5).set k _
  exact ⟨rfl, hT5.other hub hbt hbL, HST.out _ hR5 V, (Up2.l hU5).trans (Up2.r hub)⟩

set_option maxHeartbeats 2000000 in
theorem get_flags (s : Rd) (t b L : Nat) (hbL : b < L) (hbt : b ≠ t) (w : World) (hT : TapeL w t s.zs s.torn L) (hR : RqAt w b s.r) :
    Calls Try.prog 48 #[.pointer (some ⟨t, 0, none⟩), .pointer (some ⟨b, 0, none⟩)] w (GetP .flags t b L s w) := by
  have HT := Lib.hid (tnumber_tl t s.zs s.torn L w hT)
  have HG : Hid (get1 s .flags = ⟨(stepT s.zs s.torn (numS s.zs)).1, (stepT s.zs s.torn (numS s.zs)).2, { s.r with flags := min (numR s.zs s.torn) 255 }⟩) := rfl
  have hV : 0 ≤ numR s.zs s.torn ∧ numR s.zs s.torn ≤ 18446744073709551615 := by
    unfold numR
    split
    · exact ⟨by decide, by decide⟩
    · exact numV_range _ hT.t.by_
  have HRR := Lib.hid hR
  generalize numR s.zs s.torn = V at HT HG hV
  generalize stepT s.zs s.torn (numS s.zs) = S at HT HG
  obtain ⟨v0, v1⟩ := hV
  obtain ⟨n, rfl⟩ := Int.eq_ofNat_of_zero_le v0
  clear hT hR v0
  go_enter Try.func48, Try.ntmps48
  go_wp2_with fail
  refine HT.out.mono ?_
  rintro e w5 ⟨rfl, hT5, hU5⟩
  have hR5 := HRR.out.up hU5 hbt
  have c5 := hR5.c1
  have f5 := hR5.f 1
  go_wp2_with fail
  go_end0
  rw [show GetP .flags t b L s w = fun e w' => e = .returned (.tuple #[]) ∧ TapeL w' t (get1 s .flags).zs (get1 s .flags).torn L ∧ RqAt w' b (get1 s .flags).r ∧ Up2 t b w w' from rfl, HG.out]
  have hub : Up b w5 (w5.setCell ⟨b, 1, none⟩ (.int .u8 (min (n : Int) 255))) := (Up.refl b w5).set 1 _
  exact ⟨rfl, hT5.other hub hbt hbL, hR5.set1 _, (Up2.l hU5).trans (Up2.r hub)⟩

end Go.Proofs.Ytphcdndohdnolaa
