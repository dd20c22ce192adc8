/-
  THE LAYOUT, PLAINLY: where things stand, and to what a word belongs.
-/
namespace Go.Proofs.Ytkopfnldgnkkoaa

/-- A geometry. -/
structure G where
  w : Int
  i : Int
  b : Int

def mayP (g : G) : Prop := 1 ≤ g.w ∧ g.w ≤ 4 ∧ 2 ≤ g.i ∧ g.i ≤ 64 ∧ 2 ≤ g.b ∧ g.b ≤ 512
instance (g : G) : Decidable (mayP g) := by unfold mayP; infer_instance
def mayB (g : G) : Bool := decide (mayP g)
theorem mayB_true {g : G} : mayB g = true ↔ mayP g := by simp [mayB]
theorem mayB_false {g : G} : mayB g = false ↔ ¬ mayP g := by simp [mayB]

/-- The rows: their kinds, sizes, and how many. -/
def kindN : Nat → Int
  | 0 => 1 | 1 => 2 | 2 => 5 | 3 => 6 | 4 => 7 | 5 => 8 | _ => 9
def sizeN : Nat → Int
  | 0 => 8 | 1 => 64 | 2 => 208 | 3 => 8 | 4 => 8 | 5 => 16 | _ => 8
def manyN (g : G) : Nat → Int
  | 0 => 1 | 1 => 4 | 2 => g.w | 3 => 1 | 4 => 1 | 5 => g.i | _ => g.b
/-- Where the n-th row begins. -/
def atN (g : G) : Nat → Int
  | 0 => 0 | 1 => 8 | 2 => 264 | 3 => 264 + 208 * g.w | 4 => 272 + 208 * g.w | 5 => 280 + 208 * g.w | 6 => 280 + 208 * g.w + 16 * g.i | _ => 280 + 208 * g.w + 16 * g.i + 8 * g.b

theorem atN_succ (g : G) {n : Nat} (h : n < 7) : atN g (n + 1) = atN g n + sizeN n * manyN g n := by
  match n, h with
  | 0, _ => rfl
  | 1, _ => rfl
  | 2, _ => simp [atN, sizeN, manyN]
  | 3, _ => simp [atN, sizeN, manyN]; omega
  | 4, _ => simp [atN, sizeN, manyN]; omega
  | 5, _ => simp [atN, sizeN, manyN]
  | 6, _ => simp [atN, sizeN, manyN]
theorem many_bd {g : G} (hm : mayP g) {n : Nat} (h : n < 7) : 1 ≤ manyN g n ∧ manyN g n ≤ 512 := by
  obtain ⟨h1, h2, h3, h4, h5, h6⟩ := hm
  match n, h with
  | 0, _ | 1, _ | 3, _ | 4, _ => simp [manyN]
  | 2, _ | 5, _ | 6, _ => simp [manyN]; omega
theorem size_bd (n : Nat) : 8 ≤ sizeN n ∧ sizeN n ≤ 208 := by
  match n with
  | 0 | 1 | 2 | 3 | 4 | 5 | n + 6 => simp [sizeN]
theorem at_bd {g : G} (hm : mayP g) (n : Nat) : 0 ≤ atN g n ∧ atN g n ≤ 6232 := by
  obtain ⟨h1, h2, h3, h4, h5, h6⟩ := hm
  match n with
  | 0 | 1 | 2 | 3 | 4 | 5 | 6 | n + 7 => simp [atN]; try omega
theorem prod_bd {g : G} (hm : mayP g) {n : Nat} (h : n < 7) : 0 ≤ sizeN n * manyN g n ∧ sizeN n * manyN g n ≤ 6232 := by
  have h1 := atN_succ g h
  have h2 := at_bd hm n
  have h3 := at_bd hm (n + 1)
  have h4 := many_bd hm h
  have h5 := size_bd n
  have : 0 ≤ sizeN n * manyN g n := Int.mul_nonneg (by omega) (by omega)
  omega
theorem kind_all : ∀ n, n < 7 → ∀ m, m < 7 → n < m → (kindN n != kindN m) = true := by decide
theorem kind_inj {n m : Nat} (hn : n < 7) (hm : m < 7) (h : n < m) : (kindN n != kindN m) = true := kind_all n hn m hm h

/-- Where the i-th thing of the n-th row stands. -/
def placeV (g : G) (n : Nat) (i : Int) : Int := if mayP g ∧ 0 ≤ i ∧ i ≤ manyN g n - 1 then atN g n + sizeN n * i else -1
def wordsV (g : G) : Int := if mayP g then atN g 7 else 0
def least : G := ⟨1, 2, 2⟩
def sessV (i : Int) : Int := if 0 ≤ i ∧ i ≤ 3 then 8 + 64 * i else -1
theorem sess_place (i : Int) : placeV least 1 i = sessV i := by
  have hm : mayP least := by decide
  simp only [placeV, sessV, atN, sizeN, manyN, hm, true_and]
  by_cases h : 0 ≤ i ∧ i ≤ 3
  · rw [if_pos (by omega), if_pos h]
  · rw [if_neg (by omega), if_neg h]
def partV (i k many from_ size : Int) : Int := if sessV i < 0 ∨ ¬ (0 ≤ k ∧ k ≤ many - 1) then -1 else sessV i + from_ + size * k

/-- To what a word belongs: the kind, two numbers, the rest. -/
def inSessV (i r : Int) : Int × Int × Int × Int :=
  if r < 8 then (2, i, 0, r) else if r < 56 then (3, i, (r - 8) / 12, (r - 8) % 12) else (4, i, (r - 56) / 2, (r - 56) % 2)
def rowOf (g : G) (at_ : Int) : Nat :=
  if at_ < atN g 1 then 0 else if at_ < atN g 2 then 1 else if at_ < atN g 3 then 2 else if at_ < atN g 4 then 3 else if at_ < atN g 5 then 4 else if at_ < atN g 6 then 5 else if at_ < atN g 7 then 6 else 7
def whereV (g : G) (at_ : Int) : Int × Int × Int × Int :=
  if ¬ mayP g ∨ at_ < 0 ∨ atN g 7 ≤ at_ then (0, 0, 0, 0) else
  let n := rowOf g at_
  let r := at_ - atN g n
  if n = 1 then inSessV (r / 64) (r % 64) else (kindN n, r / sizeN n, 0, r % sizeN n)

theorem row_of {g : G} (hm : mayP g) {n : Nat} (hn : n < 7) {x : Int} (h1 : atN g n ≤ x) (h2 : x < atN g (n + 1)) : rowOf g x = n := by
  obtain ⟨g1, g2, g3, g4, g5, g6⟩ := hm
  unfold rowOf
  match n, hn with
  | 0, _ | 1, _ | 2, _ | 3, _ | 4, _ | 5, _ | 6, _ =>
    simp only [atN] at h1 h2 ⊢
    repeat (first | rw [if_neg (by omega)] | rw [if_pos (by omega)])
theorem where_row {g : G} (hm : mayP g) {n : Nat} (hn : n < 7) {x : Int} (h0 : 0 ≤ x) (h1 : atN g n ≤ x) (h2 : x < atN g (n + 1)) :
    whereV g x = if n = 1 then inSessV ((x - atN g n) / 64) ((x - atN g n) % 64) else (kindN n, (x - atN g n) / sizeN n, 0, (x - atN g n) % sizeN n) := by
  have h7 : atN g (n + 1) ≤ atN g 7 := by
    obtain ⟨g1, g2, g3, g4, g5, g6⟩ := hm
    match n, hn with
    | 0, _ | 1, _ | 2, _ | 3, _ | 4, _ | 5, _ | 6, _ => simp only [atN]; omega
  unfold whereV
  rw [if_neg (by intro hh; rcases hh with hh | hh | hh; exact hh hm; omega; omega), row_of hm hn h1 h2]
theorem where_none {g : G} {x : Int} (h : ¬ mayP g ∨ x < 0 ∨ atN g 7 ≤ x) : whereV g x = (0, 0, 0, 0) := if_pos h
theorem kind_sess {n : Nat} (hn : n < 7) : (kindN n == 2) = decide (n = 1) := by
  match n, hn with
  | 0, _ | 1, _ | 2, _ | 3, _ | 4, _ | 5, _ | 6, _ => rfl

end Go.Proofs.Ytkopfnldgnkkoaa
