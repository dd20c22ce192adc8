/-
  LOCKS: the closures of Want and Give; IndexFunc, ContainsFunc.
-/
import Derived.Test.YtdjncbfoecoedaaLkC
namespace Go.Proofs.Ytdjncbfoecoedaa
open Go.RowKit Go.Shelf
set_option linter.unusedVariables false

/-- What IndexFunc tells. -/
def IndexQ (p : Int → Bool) (xs : List Int) (w : World) (e : Ending) (w' : World) : Prop :=
  ((e = .returned (.int .i64 (-1)) ∧ ∀ y ∈ xs, p y = false) ∨ ∃ (k : Nat) (h : k < xs.length), e = .returned (.int .i64 (k : Int)) ∧ p xs[k] = true ∧ ∀ y ∈ xs.take k, p y = false) ∧ w = w'
theorem take_none {p : Int → Bool} {xs : List Int} {k : Nat} (hk : k < xs.length) (h : ∀ y ∈ xs.take k, p y = false) (hx : p xs[k] = false) : ∀ y ∈ xs.take (k + 1), p y = false := by
  rw [List.take_succ_eq_append_getElem hk]
  intro y hy
  rcases List.mem_append.1 hy with hy | hy
  · exact h y hy
  · rw [List.mem_singleton.1 hy]; exact hx
def geB (v y : Int) : Bool := decide (v ≤ y)
def eqB (v y : Int) : Bool := y == v

set_option maxHeartbeats 1000000 in
theorem want1_any (B : Nat) (v y : Int) (w : World) (h : w.cell? ⟨B, 0, none⟩ = some (.int .i64 v)) :
    Calls Try.prog 23 #[.int .i64 y, .pointer (some ⟨B, 0, none⟩)] w fun e w' => e = .returned (.bool (geB v y)) ∧ w = w' := by
  go_enter Try.func23, Try.ntmps23
  go_wp2_with fail
  go_ret
  exact ⟨rfl, rfl⟩
set_option maxHeartbeats 2000000 in
theorem want_index (B : Nat) (v : Int) (a : Option Addr) (n c : Nat) (xs : List Int) (hx : xs.length = n) (hn : n ≤ 1000000) (D : Nat) (w : World) (hb : w.cell? ⟨B, 0, none⟩ = some (.int .i64 v)) (hI : Ints D .i64 w a xs) :
    Calls Try.prog 27 #[.slice a n c, .func (.func 23) #[] #[.pointer (some ⟨B, 0, none⟩)]] w (IndexQ (geB v) xs w) := by
  subst hx
  have HC := Lib.hid (fun y => want1_any B v y w hb)
  clear hb
  go_enter Try.func27, Try.ntmps27
  go_wp2_with fail
  go_loop [8, 5] (fun i q => ∃ k : Nat, k ≤ xs.length ∧ i = .int .i64 k ∧ ∀ y ∈ xs.take k, geB v y = false) (fun i _ => xs.length - (intOf i).toNat)
  case atStart => exact ⟨0, by omega, rfl, by simp⟩
  case round =>
    obtain ⟨k, hk, rfl, hnot⟩ := hrel
    have HNOT := Lib.hid hnot
    clear hnot
    by_cases hlt : k < xs.length
    · obtain ⟨b, off, rfl, _, hc⟩ := hI.at hlt
      have HTK := Lib.hid (fun hx => take_none (p := geB v) hlt HNOT.out hx)
      have HY : Hid (∃ (k' : Nat) (h : k' < xs.length), (k' : Int) = k ∧ geB v xs[k'] = geB v xs[k] ∧ ∀ y ∈ xs.take k', geB v y = false) := ⟨k, hlt, rfl, rfl, HNOT.out⟩
      obtain ⟨y, hy⟩ : ∃ y, xs[k] = y := ⟨_, rfl⟩
      rw [hy] at hc HTK HY
      clear hy hI
      have HCy := Lib.hid (HC.out y)
      cases hp : geB v y
      · rw [hp] at HCy
        have HP := Lib.hid hp
        clear hp
        go_wp2_with fail
        refine HCy.out.mono ?_
        rintro e w1 ⟨rfl, rfl⟩
        go_wp2_with fail
        go_round
        case rel => exact ⟨k + 1, by omega, by go_num, HTK.out HP.out⟩
        case measure => simp [intOf]; omega
      · rw [hp] at HCy
        have HP := Lib.hid hp
        clear hp
        go_wp2_with fail
        refine HCy.out.mono ?_
        rintro e w1 ⟨rfl, rfl⟩
        go_wp2_with fail
        go_ret
        obtain ⟨k', h', e1, e2, e3⟩ := HY.out
        exact ⟨.inr ⟨k', h', by rw [e1]; rfl, by rw [e2]; exact HP.out, e3⟩, rfl⟩
    · have hnot : ∀ y ∈ xs, geB v y = false := by have := HNOT.out; rwa [List.take_of_length_le (by omega)] at this
      have HN := Lib.hid hnot
      clear hnot
      go_wp2_with fail
      go_ret
      exact ⟨.inl ⟨rfl, HN.out⟩, rfl⟩

set_option maxHeartbeats 1000000 in
theorem give1_any (B : Nat) (v y : Int) (w : World) (h : w.cell? ⟨B, 0, none⟩ = some (.int .i64 v)) :
    Calls Try.prog 19 #[.int .i64 y, .pointer (some ⟨B, 0, none⟩)] w fun e w' => e = .returned (.bool (eqB v y)) ∧ w = w' := by
  go_enter Try.func19, Try.ntmps19
  go_wp2_with fail
  go_ret
  exact ⟨rfl, rfl⟩
set_option maxHeartbeats 2000000 in
theorem give_index (B : Nat) (v : Int) (a : Option Addr) (n c : Nat) (xs : List Int) (hx : xs.length = n) (hn : n ≤ 1000000) (D : Nat) (w : World) (hb : w.cell? ⟨B, 0, none⟩ = some (.int .i64 v)) (hI : Ints D .i64 w a xs) :
    Calls Try.prog 27 #[.slice a n c, .func (.func 19) #[] #[.pointer (some ⟨B, 0, none⟩)]] w (IndexQ (eqB v) xs w) := by
  subst hx
  have HC := Lib.hid (fun y => give1_any B v y w hb)
  clear hb
  go_enter Try.func27, Try.ntmps27
  go_wp2_with fail
  go_loop [8, 5] (fun i q => ∃ k : Nat, k ≤ xs.length ∧ i = .int .i64 k ∧ ∀ y ∈ xs.take k, eqB v y = false) (fun i _ => xs.length - (intOf i).toNat)
  case atStart => exact ⟨0, by omega, rfl, by simp⟩
  case round =>
    obtain ⟨k, hk, rfl, hnot⟩ := hrel
    have HNOT := Lib.hid hnot
    clear hnot
    by_cases hlt : k < xs.length
    · obtain ⟨b, off, rfl, _, hc⟩ := hI.at hlt
      have HTK := Lib.hid (fun hx => take_none (p := eqB v) hlt HNOT.out hx)
      have HY : Hid (∃ (k' : Nat) (h : k' < xs.length), (k' : Int) = k ∧ eqB v xs[k'] = eqB v xs[k] ∧ ∀ y ∈ xs.take k', eqB v y = false) := ⟨k, hlt, rfl, rfl, HNOT.out⟩
      obtain ⟨y, hy⟩ : ∃ y, xs[k] = y := ⟨_, rfl⟩
      rw [hy] at hc HTK HY
      clear hy hI
      have HCy := Lib.hid (HC.out y)
      cases hp : eqB v y
      · rw [hp] at HCy
        have HP := Lib.hid hp
        clear hp
        go_wp2_with fail
        refine HCy.out.mono ?_
        rintro e w1 ⟨rfl, rfl⟩
        go_wp2_with fail
        go_round
        case rel => exact ⟨k + 1, by omega, by go_num, HTK.out HP.out⟩
        case measure => simp [intOf]; omega
      · rw [hp] at HCy
        have HP := Lib.hid hp
        clear hp
        go_wp2_with fail
        refine HCy.out.mono ?_
        rintro e w1 ⟨rfl, rfl⟩
        go_wp2_with fail
        go_ret
        obtain ⟨k', h', e1, e2, e3⟩ := HY.out
        exact ⟨.inr ⟨k', h', by rw [e1]; rfl, by rw [e2]; exact HP.out, e3⟩, rfl⟩
    · have hnot : ∀ y ∈ xs, eqB v y = false := by have := HNOT.out; rwa [List.take_of_length_le (by omega)] at this
      have HN := Lib.hid hnot
      clear hnot
      go_wp2_with fail
      go_ret
      exact ⟨.inl ⟨rfl, HN.out⟩, rfl⟩

set_option maxHeartbeats 1000000 in
theorem want_contains (B : Nat) (v : Int) (a : Option Addr) (n c : Nat) (xs : List Int) (hx : xs.length = n) (hn : n ≤ 1000000) (D : Nat) (w : World) (hb : w.cell? ⟨B, 0, none⟩ = some (.int .i64 v)) (hI : Ints D .i64 w a xs) :
    Calls Try.prog 22 #[.slice a n c, .func (.func 23) #[] #[.pointer (some ⟨B, 0, none⟩)]] w fun e w' => e = .returned (.bool (xs.any (geB v))) ∧ w = w' := by
  have HC := Lib.hid (want_index B v a n c xs hx hn D w hb hI)
  clear hb hI hx
  go_enter Try.func22, Try.ntmps22
  go_wp2_with fail
  refine HC.out.mono ?_
  rintro e w' ⟨⟨rfl, hno⟩ | ⟨k, hk, rfl, hy, _⟩, rfl⟩
  · have HA := Lib.hid (show xs.any (geB v) = false by rw [List.any_eq_false]; intro y hy; rw [hno y hy]; simp)
    clear hno
    go_wp2_with fail
    go_ret
    exact ⟨by rw [HA.out]; rfl, rfl⟩
  · have HA := Lib.hid (show xs.any (geB v) = true from List.any_eq_true.2 ⟨_, List.getElem_mem hk, hy⟩)
    have hk0 : 0 ≤ (k : Int) := by omega
    clear hy
    go_wp2_with fail
    go_ret
    exact ⟨by rw [HA.out]; rfl, rfl⟩

end Go.Proofs.Ytdjncbfoecoedaa
