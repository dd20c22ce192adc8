/-
  THE PLAIN LAW OF THE SUM: each step can be taken back.
-/
import Derived.Laws.BitsAllLaws
import Derived.Laws.BitsLemmas
namespace Go.Proofs.Ytkopfnldgnkkoaa

/-- One step of the sum. -/
def stp (s w : Int) : Int := IntKind.u64.wrap (bits .xor .u64 s w * 1099511628211)
def sumOf (l : List Int) : Int := l.foldl stp 14695981039346656037

theorem sumOf_snoc (pre : List Int) (x : Int) : sumOf (pre ++ [x]) = stp (sumOf pre) x := by simp [sumOf]

theorem wrap_u64 (n : Int) : IntKind.u64.wrap n = n % 18446744073709551616 := by simp [IntKind.wrap, IntKind.bits, IntKind.signed]
theorem xor_u64 (a b : Int) : bits .xor .u64 a b = ((BitVec.ofInt 64 a ^^^ BitVec.ofInt 64 b).toNat : Int) := by
  show IntKind.u64.wrap ((BitVec.ofInt 64 a ^^^ BitVec.ofInt 64 b).toNat : Int) = _
  rw [wrap_u64]
  have := (BitVec.ofInt 64 a ^^^ BitVec.ofInt 64 b).isLt
  omega
theorem stp_eq (s w : Int) : stp s w = (((BitVec.ofInt 64 s ^^^ BitVec.ofInt 64 w) * 1099511628211#64).toNat : Int) := by
  unfold stp
  rw [wrap_u64, xor_u64, BitVec.toNat_mul]
  show _ = (((_ : Nat) % 18446744073709551616 : Nat) : Int)
  rw [show (1099511628211#64).toNat = 1099511628211 from rfl]
  omega
theorem stp_range (s w : Int) : 0 ≤ stp s w ∧ stp s w < 18446744073709551616 := by
  rw [stp_eq]
  have := ((BitVec.ofInt 64 s ^^^ BitVec.ofInt 64 w) * 1099511628211#64).isLt
  omega
theorem ofInt_inj {a b : Int} (h1 : 0 ≤ a) (h2 : a < 18446744073709551616) (h3 : 0 ≤ b) (h4 : b < 18446744073709551616) (h : BitVec.ofInt 64 a = BitVec.ofInt 64 b) : a = b := by
  have h' := congrArg BitVec.toNat h
  rw [BitVec.toNat_ofInt, BitVec.toNat_ofInt, show (((2 : Nat) ^ 64 : Nat) : Int) = 18446744073709551616 from rfl] at h'
  rw [Int.emod_eq_of_lt h1 h2, Int.emod_eq_of_lt h3 h4] at h'
  omega
theorem mul_inj {x y : BitVec 64} (h : x * 1099511628211#64 = y * 1099511628211#64) : x = y := by
  have h' := congrArg (· * 14886173955864302971#64) h
  simp only [BitVec.mul_assoc] at h'
  have e : (1099511628211#64 * 14886173955864302971#64) = 1#64 := by decide
  rw [e, BitVec.mul_one, BitVec.mul_one] at h'
  exact h'
theorem stp_bv {s w s' w' : Int} (h : stp s w = stp s' w') : BitVec.ofInt 64 s ^^^ BitVec.ofInt 64 w = BitVec.ofInt 64 s' ^^^ BitVec.ofInt 64 w' := by
  rw [stp_eq, stp_eq] at h
  exact mul_inj (BitVec.eq_of_toNat_eq (by omega))
theorem xor_cancel {x y z : BitVec 64} (h : x ^^^ z = y ^^^ z) : x = y := by
  have h' := congrArg (· ^^^ z) h
  simpa [BitVec.xor_assoc] using h'
theorem xor_cancel' {x y z : BitVec 64} (h : z ^^^ x = z ^^^ y) : x = y := by
  rw [BitVec.xor_comm z x, BitVec.xor_comm z y] at h; exact xor_cancel h
def u64 (n : Int) : Prop := 0 ≤ n ∧ n < 18446744073709551616
theorem stp_left {s s' w : Int} (h1 : u64 s) (h2 : u64 s') (h : stp s w = stp s' w) : s = s' :=
  ofInt_inj h1.1 h1.2 h2.1 h2.2 (xor_cancel (stp_bv h))
theorem stp_right {s w w' : Int} (h1 : u64 w) (h2 : u64 w') (h : stp s w = stp s w') : w = w' :=
  ofInt_inj h1.1 h1.2 h2.1 h2.2 (xor_cancel' (stp_bv h))
theorem fold_range : ∀ (l : List Int) (s : Int), u64 s → u64 (l.foldl stp s)
  | [], _, h => h
  | w :: l, s, _ => fold_range l (stp s w) (stp_range s w)
theorem sumOf_range (l : List Int) : u64 (sumOf l) := fold_range l _ ⟨by decide, by decide⟩
theorem fold_inj : ∀ (l : List Int) (s s' : Int), u64 s → u64 s' → l.foldl stp s = l.foldl stp s' → s = s'
  | [], _, _, _, _, h => h
  | w :: l, s, s', h1, h2, h => stp_left h1 h2 (fold_inj l _ _ (stp_range s w) (stp_range s' w) h)
theorem sum_keeps (l m : List Int) (w : Int) : sumOf (l ++ [w]) = sumOf (m ++ [w]) ↔ sumOf l = sumOf m := by
  rw [sumOf_snoc, sumOf_snoc]
  exact ⟨fun h => stp_left (sumOf_range l) (sumOf_range m) h, fun h => by rw [h]⟩
theorem xor_u64_range (a b : Int) : u64 (bits .xor .u64 a b) := by
  rw [xor_u64]
  have := (BitVec.ofInt 64 a ^^^ BitVec.ofInt 64 b).isLt
  exact ⟨by omega, by omega⟩
theorem xor_self {x y : Int} (hx : u64 x) (hy : u64 y) : bits .xor .u64 x y = x ↔ y = 0 := by
  rw [xor_u64]
  have hx' : ((BitVec.ofInt 64 x).toNat : Int) = x := by
    rw [BitVec.toNat_ofInt, show (((2 : Nat) ^ 64 : Nat) : Int) = 18446744073709551616 from rfl, Int.emod_eq_of_lt hx.1 hx.2]; have := hx.1; omega
  constructor
  · intro h
    have : BitVec.ofInt 64 x ^^^ BitVec.ofInt 64 y = BitVec.ofInt 64 x ^^^ 0#64 := by
      rw [BitVec.xor_zero]; exact BitVec.eq_of_toNat_eq (by omega)
    have := xor_cancel' this
    exact ofInt_inj hy.1 hy.2 (by decide) (by decide) this
  · rintro rfl
    have : BitVec.ofInt 64 0 = 0#64 := rfl
    rw [this, BitVec.xor_zero]; exact hx'
theorem sum_one (l : List Int) (k : Nat) (hk : k < l.length) (y : Int) (hl : ∀ n ∈ l, u64 n) (hy : u64 y) :
    sumOf (l.set k (bits .xor .u64 l[k] y)) = sumOf l ↔ y = 0 := by
  have hx : u64 l[k] := hl _ (List.getElem_mem hk)
  have e1 : l.set k (bits .xor .u64 l[k] y) = l.take k ++ bits .xor .u64 l[k] y :: l.drop (k + 1) := by
    rw [List.set_eq_take_append_cons_drop, if_pos hk]
  have e2 : l = l.take k ++ l[k] :: l.drop (k + 1) := by simp
  rw [e1]
  conv => lhs; rhs; rw [e2]
  unfold sumOf
  rw [List.foldl_append, List.foldl_append, List.foldl_cons, List.foldl_cons]
  constructor
  · intro h
    exact (xor_self hx hy).1 (stp_right (xor_u64_range _ _) hx (fold_inj _ _ _ (stp_range _ _) (stp_range _ _) h))
  · intro h
    rw [(xor_self hx hy).2 h]

theorem sum_one_b (l : List Int) (k : Nat) (hk : k < l.length) (y : Int) (hl : ∀ n ∈ l, u64 n) (hy : u64 y) :
    ((sumOf (l.set k (bits .xor .u64 l[k] y)) == sumOf l) == (y == 0)) = true := by
  rw [beq_iff_eq, Bool.eq_iff_iff, beq_iff_eq, beq_iff_eq]
  exact sum_one l k hk y hl hy

theorem sum_keeps_b (l m : List Int) (w : Int) : ((sumOf (l ++ [w]) == sumOf (m ++ [w])) == (sumOf l == sumOf m)) = true := by
  rw [beq_iff_eq, Bool.eq_iff_iff, beq_iff_eq, beq_iff_eq]
  exact sum_keeps l m w

end Go.Proofs.Ytkopfnldgnkkoaa
