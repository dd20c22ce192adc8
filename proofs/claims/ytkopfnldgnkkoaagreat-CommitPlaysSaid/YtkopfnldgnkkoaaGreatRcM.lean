import Derived.Laws.BitsAllLaws
import Derived.Laws.BitsLemmas
import Derived.Lib.Hide

/-
  THE LAYOUT, PLAINLY: where things stand, and to what a word belongs.
-/
namespace Go.Proofs.YtkopfnldgnkkoaaGreat

/-- A geometry. -/
structure G where
  w : Int
  i : Int
  b : Int

def mayP (g : G) : Prop := 1 ≤ g.w ∧ g.w ≤ 4 ∧ 2 ≤ g.i ∧ g.i ≤ 64 ∧ 2 ≤ g.b ∧ g.b ≤ 512
instance (g : G) : Decidable (mayP g) := by unfold mayP; infer_instance
def mayB (g : G) : Bool := decide (mayP g)
theorem mayB_true {g : G} : mayB g = true ↔ mayP g := by simp [mayB]
theorem mayB_false {g : G} : mayB g = false ↔ ¬ mayP g := by simp [mayB]

/-- The rows: their kinds, sizes, and how many. -/
def kindN : Nat → Int
  | 0 => 1 | 1 => 2 | 2 => 5 | 3 => 6 | 4 => 7 | 5 => 8 | _ => 9
def sizeN : Nat → Int
  | 0 => 8 | 1 => 64 | 2 => 208 | 3 => 8 | 4 => 8 | 5 => 16 | _ => 8
def manyN (g : G) : Nat → Int
  | 0 => 1 | 1 => 4 | 2 => g.w | 3 => 1 | 4 => 1 | 5 => g.i | _ => g.b
/-- Where the n-th row begins. -/
def atN (g : G) : Nat → Int
  | 0 => 0 | 1 => 8 | 2 => 264 | 3 => 264 + 208 * g.w | 4 => 272 + 208 * g.w | 5 => 280 + 208 * g.w | 6 => 280 + 208 * g.w + 16 * g.i | _ => 280 + 208 * g.w + 16 * g.i + 8 * g.b

theorem atN_succ (g : G) {n : Nat} (h : n < 7) : atN g (n + 1) = atN g n + sizeN n * manyN g n := by
  match n, h with
  | 0, _ => rfl
  | 1, _ => rfl
  | 2, _ => simp [atN, sizeN, manyN]
  | 3, _ => simp [atN, sizeN, manyN]; omega
  | 4, _ => simp [atN, sizeN, manyN]; omega
  | 5, _ => simp [atN, sizeN, manyN]
  | 6, _ => simp [atN, sizeN, manyN]
theorem many_bd {g : G} (hm : mayP g) {n : Nat} (h : n < 7) : 1 ≤ manyN g n ∧ manyN g n ≤ 512 := by
  obtain ⟨h1, h2, h3, h4, h5, h6⟩ := hm
  match n, h with
  | 0, _ | 1, _ | 3, _ | 4, _ => simp [manyN]
  | 2, _ | 5, _ | 6, _ => simp [manyN]; omega
theorem size_bd (n : Nat) : 8 ≤ sizeN n ∧ sizeN n ≤ 208 := by
  match n with
  | 0 | 1 | 2 | 3 | 4 | 5 | n + 6 => simp [sizeN]
theorem at_bd {g : G} (hm : mayP g) (n : Nat) : 0 ≤ atN g n ∧ atN g n ≤ 6232 := by
  obtain ⟨h1, h2, h3, h4, h5, h6⟩ := hm
  match n with
  | 0 | 1 | 2 | 3 | 4 | 5 | 6 | n + 7 => simp [atN]; try omega
theorem prod_bd {g : G} (hm : mayP g) {n : Nat} (h : n < 7) : 0 ≤ sizeN n * manyN g n ∧ sizeN n * manyN g n ≤ 6232 := by
  have h1 := atN_succ g h
  have h2 := at_bd hm n
  have h3 := at_bd hm (n + 1)
  have h4 := many_bd hm h
  have h5 := size_bd n
  have : 0 ≤ sizeN n * manyN g n := Int.mul_nonneg (by omega) (by omega)
  omega
theorem kind_all : ∀ n, n < 7 → ∀ m, m < 7 → n < m → (kindN n != kindN m) = true := by decide
theorem kind_inj {n m : Nat} (hn : n < 7) (hm : m < 7) (h : n < m) : (kindN n != kindN m) = true := kind_all n hn m hm h

/-- Where the i-th thing of the n-th row stands. -/
def placeV (g : G) (n : Nat) (i : Int) : Int := if mayP g ∧ 0 ≤ i ∧ i ≤ manyN g n - 1 then atN g n + sizeN n * i else -1
def wordsV (g : G) : Int := if mayP g then atN g 7 else 0
def least : G := ⟨1, 2, 2⟩
def sessV (i : Int) : Int := if 0 ≤ i ∧ i ≤ 3 then 8 + 64 * i else -1
theorem sess_place (i : Int) : placeV least 1 i = sessV i := by
  have hm : mayP least := by decide
  simp only [placeV, sessV, atN, sizeN, manyN, hm, true_and]
  by_cases h : 0 ≤ i ∧ i ≤ 3
  · rw [if_pos (by omega), if_pos h]
  · rw [if_neg (by omega), if_neg h]
def partV (i k many from_ size : Int) : Int := if sessV i < 0 ∨ ¬ (0 ≤ k ∧ k ≤ many - 1) then -1 else sessV i + from_ + size * k

/-- To what a word belongs: the kind, two numbers, the rest. -/
def inSessV (i r : Int) : Int × Int × Int × Int :=
  if r < 8 then (2, i, 0, r) else if r < 56 then (3, i, (r - 8) / 12, (r - 8) % 12) else (4, i, (r - 56) / 2, (r - 56) % 2)
def rowOf (g : G) (at_ : Int) : Nat :=
  if at_ < atN g 1 then 0 else if at_ < atN g 2 then 1 else if at_ < atN g 3 then 2 else if at_ < atN g 4 then 3 else if at_ < atN g 5 then 4 else if at_ < atN g 6 then 5 else if at_ < atN g 7 then 6 else 7
def whereV (g : G) (at_ : Int) : Int × Int × Int × Int :=
  if ¬ mayP g ∨ at_ < 0 ∨ atN g 7 ≤ at_ then (0, 0, 0, 0) else
  let n := rowOf g at_
  let r := at_ - atN g n
  if n = 1 then inSessV (r / 64) (r % 64) else (kindN n, r / sizeN n, 0, r % sizeN n)

theorem row_of {g : G} (hm : mayP g) {n : Nat} (hn : n < 7) {x : Int} (h1 : atN g n ≤ x) (h2 : x < atN g (n + 1)) : rowOf g x = n := by
  obtain ⟨g1, g2, g3, g4, g5, g6⟩ := hm
  unfold rowOf
  match n, hn with
  | 0, _ | 1, _ | 2, _ | 3, _ | 4, _ | 5, _ | 6, _ =>
    simp only [atN] at h1 h2 ⊢
    repeat (first | rw [if_neg (by omega)] | rw [if_pos (by omega)])
theorem where_row {g : G} (hm : mayP g) {n : Nat} (hn : n < 7) {x : Int} (h0 : 0 ≤ x) (h1 : atN g n ≤ x) (h2 : x < atN g (n + 1)) :
    whereV g x = if n = 1 then inSessV ((x - atN g n) / 64) ((x - atN g n) % 64) else (kindN n, (x - atN g n) / sizeN n, 0, (x - atN g n) % sizeN n) := by
  have h7 : atN g (n + 1) ≤ atN g 7 := by
    obtain ⟨g1, g2, g3, g4, g5, g6⟩ := hm
    match n, hn with
    | 0, _ | 1, _ | 2, _ | 3, _ | 4, _ | 5, _ | 6, _ => simp only [atN]; omega
  unfold whereV
  rw [if_neg (by intro hh; rcases hh with hh | hh | hh; exact hh hm; omega; omega), row_of hm hn h1 h2]
theorem where_none {g : G} {x : Int} (h : ¬ mayP g ∨ x < 0 ∨ atN g 7 ≤ x) : whereV g x = (0, 0, 0, 0) := if_pos h
theorem kind_sess {n : Nat} (hn : n < 7) : (kindN n == 2) = decide (n = 1) := by
  match n, hn with
  | 0, _ | 1, _ | 2, _ | 3, _ | 4, _ | 5, _ | 6, _ => rfl

end Go.Proofs.YtkopfnldgnkkoaaGreat

/-
  THE PLAIN LAW OF THE SUM: each step can be taken back.
-/
namespace Go.Proofs.YtkopfnldgnkkoaaGreat

/-- One step of the sum. -/
def stp (s w : Int) : Int := IntKind.u64.wrap (bits .xor .u64 s w * 1099511628211)
def sumOf (l : List Int) : Int := l.foldl stp 14695981039346656037

theorem sumOf_snoc (pre : List Int) (x : Int) : sumOf (pre ++ [x]) = stp (sumOf pre) x := by simp [sumOf]

theorem wrap_u64 (n : Int) : IntKind.u64.wrap n = n % 18446744073709551616 := by simp [IntKind.wrap, IntKind.bits, IntKind.signed]
theorem xor_u64 (a b : Int) : bits .xor .u64 a b = ((BitVec.ofInt 64 a ^^^ BitVec.ofInt 64 b).toNat : Int) := by
  show IntKind.u64.wrap ((BitVec.ofInt 64 a ^^^ BitVec.ofInt 64 b).toNat : Int) = _
  rw [wrap_u64]
  have := (BitVec.ofInt 64 a ^^^ BitVec.ofInt 64 b).isLt
  omega
theorem stp_eq (s w : Int) : stp s w = (((BitVec.ofInt 64 s ^^^ BitVec.ofInt 64 w) * 1099511628211#64).toNat : Int) := by
  unfold stp
  rw [wrap_u64, xor_u64, BitVec.toNat_mul]
  show _ = (((_ : Nat) % 18446744073709551616 : Nat) : Int)
  rw [show (1099511628211#64).toNat = 1099511628211 from rfl]
  omega
theorem stp_range (s w : Int) : 0 ≤ stp s w ∧ stp s w < 18446744073709551616 := by
  rw [stp_eq]
  have := ((BitVec.ofInt 64 s ^^^ BitVec.ofInt 64 w) * 1099511628211#64).isLt
  omega
theorem ofInt_inj {a b : Int} (h1 : 0 ≤ a) (h2 : a < 18446744073709551616) (h3 : 0 ≤ b) (h4 : b < 18446744073709551616) (h : BitVec.ofInt 64 a = BitVec.ofInt 64 b) : a = b := by
  have h' := congrArg BitVec.toNat h
  rw [BitVec.toNat_ofInt, BitVec.toNat_ofInt, show (((2 : Nat) ^ 64 : Nat) : Int) = 18446744073709551616 from rfl] at h'
  rw [Int.emod_eq_of_lt h1 h2, Int.emod_eq_of_lt h3 h4] at h'
  omega
theorem mul_inj {x y : BitVec 64} (h : x * 1099511628211#64 = y * 1099511628211#64) : x = y := by
  have h' := congrArg (· * 14886173955864302971#64) h
  simp only [BitVec.mul_assoc] at h'
  have e : (1099511628211#64 * 14886173955864302971#64) = 1#64 := by decide
  rw [e, BitVec.mul_one, BitVec.mul_one] at h'
  exact h'
theorem stp_bv {s w s' w' : Int} (h : stp s w = stp s' w') : BitVec.ofInt 64 s ^^^ BitVec.ofInt 64 w = BitVec.ofInt 64 s' ^^^ BitVec.ofInt 64 w' := by
  rw [stp_eq, stp_eq] at h
  exact mul_inj (BitVec.eq_of_toNat_eq (by omega))
theorem xor_cancel {x y z : BitVec 64} (h : x ^^^ z = y ^^^ z) : x = y := by
  have h' := congrArg (· ^^^ z) h
  simpa [BitVec.xor_assoc] using h'
theorem xor_cancel' {x y z : BitVec 64} (h : z ^^^ x = z ^^^ y) : x = y := by
  rw [BitVec.xor_comm z x, BitVec.xor_comm z y] at h; exact xor_cancel h
def u64 (n : Int) : Prop := 0 ≤ n ∧ n < 18446744073709551616
theorem stp_left {s s' w : Int} (h1 : u64 s) (h2 : u64 s') (h : stp s w = stp s' w) : s = s' :=
  ofInt_inj h1.1 h1.2 h2.1 h2.2 (xor_cancel (stp_bv h))
theorem stp_right {s w w' : Int} (h1 : u64 w) (h2 : u64 w') (h : stp s w = stp s w') : w = w' :=
  ofInt_inj h1.1 h1.2 h2.1 h2.2 (xor_cancel' (stp_bv h))
theorem fold_range : ∀ (l : List Int) (s : Int), u64 s → u64 (l.foldl stp s)
  | [], _, h => h
  | w :: l, s, _ => fold_range l (stp s w) (stp_range s w)
theorem sumOf_range (l : List Int) : u64 (sumOf l) := fold_range l _ ⟨by decide, by decide⟩
theorem fold_inj : ∀ (l : List Int) (s s' : Int), u64 s → u64 s' → l.foldl stp s = l.foldl stp s' → s = s'
  | [], _, _, _, _, h => h
  | w :: l, s, s', h1, h2, h => stp_left h1 h2 (fold_inj l _ _ (stp_range s w) (stp_range s' w) h)
theorem sum_keeps (l m : List Int) (w : Int) : sumOf (l ++ [w]) = sumOf (m ++ [w]) ↔ sumOf l = sumOf m := by
  rw [sumOf_snoc, sumOf_snoc]
  exact ⟨fun h => stp_left (sumOf_range l) (sumOf_range m) h, fun h => by rw [h]⟩
theorem xor_u64_range (a b : Int) : u64 (bits .xor .u64 a b) := by
  rw [xor_u64]
  have := (BitVec.ofInt 64 a ^^^ BitVec.ofInt 64 b).isLt
  exact ⟨by omega, by omega⟩
theorem xor_self {x y : Int} (hx : u64 x) (hy : u64 y) : bits .xor .u64 x y = x ↔ y = 0 := by
  rw [xor_u64]
  have hx' : ((BitVec.ofInt 64 x).toNat : Int) = x := by
    rw [BitVec.toNat_ofInt, show (((2 : Nat) ^ 64 : Nat) : Int) = 18446744073709551616 from rfl, Int.emod_eq_of_lt hx.1 hx.2]; have := hx.1; omega
  constructor
  · intro h
    have : BitVec.ofInt 64 x ^^^ BitVec.ofInt 64 y = BitVec.ofInt 64 x ^^^ 0#64 := by
      rw [BitVec.xor_zero]; exact BitVec.eq_of_toNat_eq (by omega)
    have := xor_cancel' this
    exact ofInt_inj hy.1 hy.2 (by decide) (by decide) this
  · rintro rfl
    have : BitVec.ofInt 64 0 = 0#64 := rfl
    rw [this, BitVec.xor_zero]; exact hx'
theorem sum_one (l : List Int) (k : Nat) (hk : k < l.length) (y : Int) (hl : ∀ n ∈ l, u64 n) (hy : u64 y) :
    sumOf (l.set k (bits .xor .u64 l[k] y)) = sumOf l ↔ y = 0 := by
  have hx : u64 l[k] := hl _ (List.getElem_mem hk)
  have e1 : l.set k (bits .xor .u64 l[k] y) = l.take k ++ bits .xor .u64 l[k] y :: l.drop (k + 1) := by
    rw [List.set_eq_take_append_cons_drop, if_pos hk]
  have e2 : l = l.take k ++ l[k] :: l.drop (k + 1) := by simp
  rw [e1]
  conv => lhs; rhs; rw [e2]
  unfold sumOf
  rw [List.foldl_append, List.foldl_append, List.foldl_cons, List.foldl_cons]
  constructor
  · intro h
    exact (xor_self hx hy).1 (stp_right (xor_u64_range _ _) hx (fold_inj _ _ _ (stp_range _ _) (stp_range _ _) h))
  · intro h
    rw [(xor_self hx hy).2 h]

theorem sum_one_b (l : List Int) (k : Nat) (hk : k < l.length) (y : Int) (hl : ∀ n ∈ l, u64 n) (hy : u64 y) :
    ((sumOf (l.set k (bits .xor .u64 l[k] y)) == sumOf l) == (y == 0)) = true := by
  rw [beq_iff_eq, Bool.eq_iff_iff, beq_iff_eq, beq_iff_eq]
  exact sum_one l k hk y hl hy

theorem sum_keeps_b (l m : List Int) (w : Int) : ((sumOf (l ++ [w]) == sumOf (m ++ [w])) == (sumOf l == sumOf m)) = true := by
  rw [beq_iff_eq, Bool.eq_iff_iff, beq_iff_eq, beq_iff_eq]
  exact sum_keeps l m w

end Go.Proofs.YtkopfnldgnkkoaaGreat

/-
  RECORDS, PLAINLY: writes as words, the writes of words, a record's mark.
-/
namespace Go.Proofs.YtkopfnldgnkkoaaGreat

abbrev Wr := Int × Int
def hd (ws : List Int) : Int := ws[0]?.getD 0
def isR (ws : List Int) : Prop := 0 < ws.length ∧ hd ws ≤ 96 ∧ 1 + 2 * (hd ws).toNat < ws.length
instance (ws : List Int) : Decidable (isR ws) := by unfold isR; infer_instance
def endN (ws : List Int) : Nat := 1 + 2 * (hd ws).toNat
def lastR (ws : List Int) : Int := ws[endN ws]?.getD 0

/-- The body of a record that tells of n writes, of which l have been written. -/
def bodyP (n : Nat) (l : List Wr) : List Int := (n : Int) :: l.flatMap fun x => [x.1, x.2]
def bodyL (l : List Wr) : List Int := bodyP l.length l
def recL (l : List Wr) : List Int := bodyL l ++ [sumOf (bodyL l)]
def neg (l : List Wr) : Bool := l.any fun x => decide (x.1 < 0)
def wordsL (l : List Wr) : List Int := if 96 < l.length ∨ neg l = true then [] else recL l
def wordsE (l : List Wr) : Int := if 96 < l.length then 5 else if neg l = true then 1 else 0

theorem bodyP_nil (n : Nat) : bodyP n [] = [(n : Int)] := rfl
theorem bodyP_snoc (n : Nat) (l : List Wr) (x : Wr) : bodyP n (l ++ [x]) = bodyP n l ++ [x.1, x.2] := by simp [bodyP]
theorem bodyP_len (n : Nat) (l : List Wr) : (bodyP n l).length = 1 + 2 * l.length := by
  induction l with
  | nil => rfl
  | cons x l ih => simp [bodyP] at ih ⊢; omega
theorem recL_len (l : List Wr) : (recL l).length = 2 + 2 * l.length := by
  simp [recL, bodyL, bodyP_len]; omega
theorem bodyP_at (n : Nat) (l : List Wr) (i : Nat) (h : i < l.length) : (bodyP n l)[1 + 2 * i]? = some l[i].1 ∧ (bodyP n l)[2 + 2 * i]? = some l[i].2 := by
  induction l generalizing i n with
  | nil => simp at h
  | cons x l ih =>
    cases i with
    | zero => simp [bodyP]
    | succ i =>
      have := ih 0 i (by simpa using h)
      simp only [bodyP, List.flatMap_cons, List.cons_append, List.nil_append] at this ⊢
      refine ⟨?_, ?_⟩
      · rw [show 1 + 2 * (i + 1) = (1 + 2 * i) + 2 by omega]
        have h1 := this.1
        rw [show 1 + 2 * i = (2 * i) + 1 by omega] at h1 ⊢
        simpa using h1
      · rw [show 2 + 2 * (i + 1) = (2 + 2 * i) + 2 by omega]
        have h1 := this.2
        rw [show 2 + 2 * i = (2 * i + 1) + 1 by omega] at h1 ⊢
        simpa using h1

/-- Which writes may be. -/
def kindOk (k : Int) : Bool := !(k == 0 || k == 1 || k == 5)
def atW (l : List Wr) (i : Nat) : Int := (l[i]?.getD (0, 0)).1
def apart (l : List Wr) (i : Nat) : Bool := (List.range i).all fun j => atW l j != atW l i
def okAt (g : G) (l : List Wr) (i : Nat) : Bool := kindOk (whereV g (atW l i)).1 && apart l i
def okTo (g : G) (l : List Wr) (m : Nat) : Bool := (List.range m).all (okAt g l)
def mayW (g : G) (l : List Wr) : Bool := mayB g && decide (l.length ≤ 96) && okTo g l l.length
theorem okTo_succ (g : G) (l : List Wr) (m : Nat) : okTo g l (m + 1) = (okTo g l m && okAt g l m) := by simp [okTo, List.range_succ]
theorem okTo_false {g : G} {l : List Wr} {i m : Nat} (hi : i < m) (h : okAt g l i = false) : okTo g l m = false := by
  rw [Bool.eq_false_iff]; intro hh
  have := List.all_eq_true.1 hh i (List.mem_range.2 hi)
  rw [h] at this; cases this

/-- The writes that words hold, n of them. -/
def pairsN (ws : List Int) (n : Nat) : List Wr := (List.range n).map fun i => (ws[1 + 2 * i]?.getD 0, ws[2 + 2 * i]?.getD 0)
theorem pairsN_len (ws : List Int) (n : Nat) : (pairsN ws n).length = n := by simp [pairsN]
theorem pairsN_succ (ws : List Int) (n : Nat) : pairsN ws (n + 1) = pairsN ws n ++ [(ws[1 + 2 * n]?.getD 0, ws[2 + 2 * n]?.getD 0)] := by simp [pairsN, List.range_succ]
def smallTo (ws : List Int) (n : Nat) : Bool := (List.range n).all fun i => decide (ws[1 + 2 * i]?.getD 0 < 65536)
theorem smallTo_succ (ws : List Int) (n : Nat) : smallTo ws (n + 1) = (smallTo ws n && decide (ws[1 + 2 * n]?.getD 0 < 65536)) := by simp [smallTo, List.range_succ]
theorem smallTo_false {ws : List Int} {i m : Nat} (hi : i < m) (h : ¬ ws[1 + 2 * i]?.getD 0 < 65536) : smallTo ws m = false := by
  rw [Bool.eq_false_iff]; intro hh
  have := List.all_eq_true.1 hh i (List.mem_range.2 hi)
  exact h (by simpa using this)
def readN (ws : List Int) : Nat := (hd ws).toNat
def readOk (g : G) (ws : List Int) : Bool :=
  decide (isR ws) && (sumOf (ws.take (endN ws)) == lastR ws) && smallTo ws (readN ws) && mayW g (pairsN ws (readN ws))
def readL (g : G) (ws : List Int) : List Wr := if readOk g ws = true then pairsN ws (readN ws) else []
def readE (g : G) (ws : List Int) : Int := if readOk g ws = true then 0 else 4

/-- A record's mark. -/
def markF (s n : Int) : Int := bits .or .u64 (bits .or .u64 (IntKind.u64.wrap (s * 65536)) (n * 256)) 1
def markV (ws : List Int) : Int := if isR ws then markF (lastR ws) (hd ws) else 0

end Go.Proofs.YtkopfnldgnkkoaaGreat
