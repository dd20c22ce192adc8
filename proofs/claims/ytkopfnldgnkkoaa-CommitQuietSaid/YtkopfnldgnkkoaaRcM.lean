/-
  RECORDS, PLAINLY: writes as words, the writes of words, a record's mark.
-/
import Derived.Lib.Hide
import Derived.Test.YtkopfnldgnkkoaaLyM
import Derived.Test.YtkopfnldgnkkoaaSumM
namespace Go.Proofs.Ytkopfnldgnkkoaa

abbrev Wr := Int × Int
def hd (ws : List Int) : Int := ws[0]?.getD 0
def isR (ws : List Int) : Prop := 0 < ws.length ∧ hd ws ≤ 96 ∧ 1 + 2 * (hd ws).toNat < ws.length
instance (ws : List Int) : Decidable (isR ws) := by unfold isR; infer_instance
def endN (ws : List Int) : Nat := 1 + 2 * (hd ws).toNat
def lastR (ws : List Int) : Int := ws[endN ws]?.getD 0

/-- The body of a record that tells of n writes, of which l have been written. -/
def bodyP (n : Nat) (l : List Wr) : List Int := (n : Int) :: l.flatMap fun x => [x.1, x.2]
def bodyL (l : List Wr) : List Int := bodyP l.length l
def recL (l : List Wr) : List Int := bodyL l ++ [sumOf (bodyL l)]
def neg (l : List Wr) : Bool := l.any fun x => decide (x.1 < 0)
def wordsL (l : List Wr) : List Int := if 96 < l.length ∨ neg l = true then [] else recL l
def wordsE (l : List Wr) : Int := if 96 < l.length then 5 else if neg l = true then 1 else 0

theorem bodyP_nil (n : Nat) : bodyP n [] = [(n : Int)] := rfl
theorem bodyP_snoc (n : Nat) (l : List Wr) (x : Wr) : bodyP n (l ++ [x]) = bodyP n l ++ [x.1, x.2] := by simp [bodyP]
theorem bodyP_len (n : Nat) (l : List Wr) : (bodyP n l).length = 1 + 2 * l.length := by
  induction l with
  | nil => rfl
  | cons x l ih => simp [bodyP] at ih ⊢; omega
theorem recL_len (l : List Wr) : (recL l).length = 2 + 2 * l.length := by
  simp [recL, bodyL, bodyP_len]; omega
theorem bodyP_at (n : Nat) (l : List Wr) (i : Nat) (h : i < l.length) : (bodyP n l)[1 + 2 * i]? = some l[i].1 ∧ (bodyP n l)[2 + 2 * i]? = some l[i].2 := by
  induction l generalizing i n with
  | nil => simp at h
  | cons x l ih =>
    cases i with
    | zero => simp [bodyP]
    | succ i =>
      have := ih 0 i (by simpa using h)
      simp only [bodyP, List.flatMap_cons, List.cons_append, List.nil_append] at this ⊢
      refine ⟨?_, ?_⟩
      · rw [show 1 + 2 * (i + 1) = (1 + 2 * i) + 2 by omega]
        have h1 := this.1
        rw [show 1 + 2 * i = (2 * i) + 1 by omega] at h1 ⊢
        simpa using h1
      · rw [show 2 + 2 * (i + 1) = (2 + 2 * i) + 2 by omega]
        have h1 := this.2
        rw [show 2 + 2 * i = (2 * i + 1) + 1 by omega] at h1 ⊢
        simpa using h1

/-- Which writes may be. -/
def kindOk (k : Int) : Bool := !(k == 0 || k == 1 || k == 5)
def atW (l : List Wr) (i : Nat) : Int := (l[i]?.getD (0, 0)).1
def apart (l : List Wr) (i : Nat) : Bool := (List.range i).all fun j => atW l j != atW l i
def okAt (g : G) (l : List Wr) (i : Nat) : Bool := kindOk (whereV g (atW l i)).1 && apart l i
def okTo (g : G) (l : List Wr) (m : Nat) : Bool := (List.range m).all (okAt g l)
def mayW (g : G) (l : List Wr) : Bool := mayB g && decide (l.length ≤ 96) && okTo g l l.length
theorem okTo_succ (g : G) (l : List Wr) (m : Nat) : okTo g l (m + 1) = (okTo g l m && okAt g l m) := by simp [okTo, List.range_succ]
theorem okTo_false {g : G} {l : List Wr} {i m : Nat} (hi : i < m) (h : okAt g l i = false) : okTo g l m = false := by
  rw [Bool.eq_false_iff]; intro hh
  have := List.all_eq_true.1 hh i (List.mem_range.2 hi)
  rw [h] at this; cases this

/-- The writes that words hold, n of them. -/
def pairsN (ws : List Int) (n : Nat) : List Wr := (List.range n).map fun i => (ws[1 + 2 * i]?.getD 0, ws[2 + 2 * i]?.getD 0)
theorem pairsN_len (ws : List Int) (n : Nat) : (pairsN ws n).length = n := by simp [pairsN]
theorem pairsN_succ (ws : List Int) (n : Nat) : pairsN ws (n + 1) = pairsN ws n ++ [(ws[1 + 2 * n]?.getD 0, ws[2 + 2 * n]?.getD 0)] := by simp [pairsN, List.range_succ]
def smallTo (ws : List Int) (n : Nat) : Bool := (List.range n).all fun i => decide (ws[1 + 2 * i]?.getD 0 < 65536)
theorem smallTo_succ (ws : List Int) (n : Nat) : smallTo ws (n + 1) = (smallTo ws n && decide (ws[1 + 2 * n]?.getD 0 < 65536)) := by simp [smallTo, List.range_succ]
theorem smallTo_false {ws : List Int} {i m : Nat} (hi : i < m) (h : ¬ ws[1 + 2 * i]?.getD 0 < 65536) : smallTo ws m = false := by
  rw [Bool.eq_false_iff]; intro hh
  have := List.all_eq_true.1 hh i (List.mem_range.2 hi)
  exact h (by simpa using this)
def readN (ws : List Int) : Nat := (hd ws).toNat
def readOk (g : G) (ws : List Int) : Bool :=
  decide (isR ws) && (sumOf (ws.take (endN ws)) == lastR ws) && smallTo ws (readN ws) && mayW g (pairsN ws (readN ws))
def readL (g : G) (ws : List Int) : List Wr := if readOk g ws = true then pairsN ws (readN ws) else []
def readE (g : G) (ws : List Int) : Int := if readOk g ws = true then 0 else 4

/-- A record's mark. -/
def markF (s n : Int) : Int := bits .or .u64 (bits .or .u64 (IntKind.u64.wrap (s * 65536)) (n * 256)) 1
def markV (ws : List Int) : Int := if isR ws then markF (lastR ws) (hd ws) else 0

end Go.Proofs.Ytkopfnldgnkkoaa
