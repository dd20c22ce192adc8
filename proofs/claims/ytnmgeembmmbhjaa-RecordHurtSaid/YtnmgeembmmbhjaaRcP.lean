/-
  RECORDS THAT ARE HURT: THE PLAIN LAWS.
-/
import Derived.Test.YtnmgeembmmbhjaaRcL
namespace Go.Proofs.Ytnmgeembmmbhjaa
set_option linter.unusedVariables false

theorem rec_at {l : List Wr} {K : Nat} (hK : K < 1 + 2 * l.length) : (recL l)[K]? = (bodyL l)[K]? := by
  unfold recL; rw [List.getElem?_append_left (by rw [bodyL_len]; exact hK)]
/-- A record of which one word but the first is another one. -/
theorem hurt_ok {g : G} {l : List Wr} (hm : mayW g l = true) (hu : okW l) {K : Nat} (h0 : 0 < K) (hK : K < 2 + 2 * l.length) {y : Int} (hy : u64 y) :
    readOk g ((recL l).set K (bits .xor .u64 ((recL l)[K]?.getD 0) y)) = (y == 0) := by
  have hn := (may_small hm).1
  have hg := may_neg hm
  have hru := rec_u64 hn hu hg
  have hlen := recL_len l
  have hKl : K < (recL l).length := by omega
  have hx : (recL l)[K]?.getD 0 = (recL l)[K] := by rw [List.getElem?_eq_getElem hKl]; rfl
  have hxu : u64 (recL l)[K] := hru _ (List.getElem_mem _)
  have hH := Has.of_rec (l := l) hn []
  rw [List.append_nil] at hH
  rw [hx]
  by_cases h : y = 0
  · subst h
    have : bits .xor .u64 (recL l)[K] 0 = (recL l)[K] := (xor_self hxu hy).2 rfl
    rw [this, List.set_getElem_self, hH.ok_may g, hm]; rfl
  · rw [show (y == 0) = false from by simpa using h]
    have hne : bits .xor .u64 (recL l)[K] y ≠ (recL l)[K] := fun hh => h ((xor_self hxu hy).1 hh)
    have hE : endN ((recL l).set K (bits .xor .u64 (recL l)[K] y)) = 1 + 2 * l.length := by rw [end_set h0, hH.endN]
    have key : sumOf (((recL l).set K (bits .xor .u64 (recL l)[K] y)).take (1 + 2 * l.length)) ≠ lastR ((recL l).set K (bits .xor .u64 (recL l)[K] y)) := by
      unfold lastR
      rw [hE]
      by_cases hk : K < 1 + 2 * l.length
      · rw [List.getElem?_set_ne (by omega), hH.last, List.take_set, hH.take]
        have hb : (bodyL l)[K]'(by rw [bodyL_len]; exact hk) = (recL l)[K] := by
          have := rec_at hk
          rw [List.getElem?_eq_getElem hKl, List.getElem?_eq_getElem (by rw [bodyL_len]; exact hk)] at this
          exact (Option.some.inj this).symm
        rw [← hb]
        exact fun hh => h ((sum_one (bodyL l) K (by rw [bodyL_len]; exact hk) y (body_u64 hn hu hg) hy).1 hh)
      · obtain rfl : K = 1 + 2 * l.length := by omega
        rw [List.getElem?_set_self hKl, List.take_set_of_le (by omega), hH.take]
        have := hH.last
        rw [List.getElem?_eq_getElem hKl] at this
        simp only [Option.getD_some] at this ⊢
        rw [← this]
        exact fun hh => hne hh.symm
    rw [Bool.eq_false_iff]
    intro hh
    unfold readOk at hh
    simp only [Bool.and_eq_true, beq_iff_eq] at hh
    rw [hE] at hh
    exact key hh.1.1.2
/-- A record that is cut. -/
theorem cut_not {l : List Wr} {K : Nat} (h0 : 0 < K) (hK : K < 2 + 2 * l.length) : ¬ isR ((recL l).take K) := by
  intro h
  have h2 := h.2.2
  have hh : hd ((recL l).take K) = l.length := by
    unfold hd
    rw [List.getElem?_take_of_lt (by omega), rec_at (by omega)]
    rfl
  rw [hh, List.length_take, recL_len] at h2
  simp at h2
  omega
theorem cut_read {g : G} {l : List Wr} {K : Nat} (h0 : 0 < K) (hK : K < 2 + 2 * l.length) : readOk g ((recL l).take K) = false := by
  unfold readOk
  simp [cut_not h0 hK]
theorem cut_mark {l : List Wr} {K : Nat} (h0 : 0 < K) (hK : K < 2 + 2 * l.length) : markV ((recL l).take K) = 0 := if_neg (cut_not h0 hK)
theorem hurt_pairs {l : List Wr} {K : Nat} (hn : l.length ≤ 96) (h0 : 0 < K) {y : Int} (h : y = 0) (hu : ∀ x ∈ recL l, u64 x) (hK : K < 2 + 2 * l.length) :
    pairsN ((recL l).set K (bits .xor .u64 ((recL l)[K]?.getD 0) y)) (readN ((recL l).set K (bits .xor .u64 ((recL l)[K]?.getD 0) y))) = l := by
  subst h
  have hKl : K < (recL l).length := by rw [recL_len]; omega
  have hx : (recL l)[K]?.getD 0 = (recL l)[K] := by rw [List.getElem?_eq_getElem hKl]; rfl
  have : bits .xor .u64 (recL l)[K] 0 = (recL l)[K] := (xor_self (hu _ (List.getElem_mem _)) ⟨by decide, by decide⟩).2 rfl
  rw [hx, this, List.set_getElem_self]
  have hH := Has.of_rec (l := l) hn []
  rw [List.append_nil] at hH
  rw [hH.readN, hH.pairs]

end Go.Proofs.Ytnmgeembmmbhjaa
