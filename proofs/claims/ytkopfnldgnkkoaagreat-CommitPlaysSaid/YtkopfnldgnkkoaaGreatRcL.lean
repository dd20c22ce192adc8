/-
  RECORDS: THE PLAIN LAWS.
-/
import Derived.Test.YtkopfnldgnkkoaaGreatRcM
namespace Go.Proofs.YtkopfnldgnkkoaaGreat

/-! ### The mark -/
theorem or_u64 (a b : Nat) (ha : a < 18446744073709551616) (hb : b < 18446744073709551616) : bits .or .u64 (a : Int) (b : Int) = ((a ||| b : Nat) : Int) := by
  have h1 : (BitVec.ofInt 64 (a : Int)).toNat = a := by rw [BitVec.toNat_ofInt]; omega
  have h2 : (BitVec.ofInt 64 (b : Int)).toNat = b := by rw [BitVec.toNat_ofInt]; omega
  show IntKind.u64.wrap ((BitVec.ofInt 64 (a : Int) ||| BitVec.ofInt 64 (b : Int)).toNat : Int) = _
  rw [wrap_u64]
  have h3 := (BitVec.ofInt 64 (a : Int) ||| BitVec.ofInt 64 (b : Int)).isLt
  rw [BitVec.toNat_or, h1, h2] at *
  omega
theorem markF_eq {s n : Int} (hs : u64 s) (h0 : 0 ≤ n) (h1 : n ≤ 96) : markF s n = s * 65536 % 18446744073709551616 + n * 256 + 1 := by
  obtain ⟨s, rfl⟩ : ∃ m : Nat, s = (m : Int) := ⟨s.toNat, by have := hs.1; omega⟩
  obtain ⟨n, rfl⟩ : ∃ m : Nat, n = (m : Int) := ⟨n.toNat, by omega⟩
  have e1 : (s : Int) * 65536 % 18446744073709551616 = ((2 ^ 16 * (s % 281474976710656) : Nat) : Int) := by omega
  unfold markF
  rw [wrap_u64, e1, show (n : Int) * 256 = ((n * 256 : Nat) : Int) by omega, or_u64 _ _ (by omega) (by omega), ← Nat.two_pow_add_eq_or_of_lt (show n * 256 < 2 ^ 16 by omega)]
  rw [show 2 ^ 16 * (s % 281474976710656) + n * 256 = 2 ^ 8 * (2 ^ 8 * (s % 281474976710656) + n) by omega, show (1 : Int) = ((1 : Nat) : Int) from rfl, or_u64 _ _ (by omega) (by omega), ← Nat.two_pow_add_eq_or_of_lt (show 1 < 2 ^ 8 by decide)]
  omega

/-! ### The words of a record -/
def okW (l : List Wr) : Prop := ∀ x ∈ l, x.1 < 9223372036854775808 ∧ u64 x.2
theorem body_u64 {l : List Wr} {n : Nat} (hn : n ≤ 96) (hu : okW l) (hg : neg l = false) : ∀ x ∈ bodyP n l, u64 x := by
  intro x hx
  simp only [bodyP, List.mem_cons, List.mem_flatMap, List.not_mem_nil, or_false] at hx
  rcases hx with rfl | ⟨y, hy, h⟩
  · exact ⟨by omega, by omega⟩
  · have h1 := hu y hy
    have h2 : ¬ y.1 < 0 := by
      intro hh
      have : neg l = true := List.any_eq_true.2 ⟨y, hy, by simpa using hh⟩
      rw [hg] at this; cases this
    rcases h with rfl | rfl
    · exact ⟨by omega, by omega⟩
    · exact h1.2
theorem rec_u64 {l : List Wr} (hn : l.length ≤ 96) (hu : okW l) (hg : neg l = false) : ∀ x ∈ recL l, u64 x := by
  intro x hx
  rcases List.mem_append.1 hx with h | h
  · exact body_u64 hn hu hg x h
  · simp at h; rw [h]; exact sumOf_range _
theorem words_u64 {l : List Wr} (hu : okW l) : ∀ x ∈ wordsL l, u64 x := by
  unfold wordsL
  split
  · simp
  · rename_i h
    exact rec_u64 (by omega) hu (by simpa using fun hh => h (.inr hh))

theorem bodyL_len (l : List Wr) : (bodyL l).length = 1 + 2 * l.length := bodyP_len _ _
/-- The first words are a record's. -/
structure Has (ws : List Int) (l : List Wr) (s : Int) : Prop where
  n : l.length ≤ 96
  len : 1 + 2 * l.length < ws.length
  take : ws.take (1 + 2 * l.length) = bodyL l
  last : ws[1 + 2 * l.length]?.getD 0 = s
theorem Has.of_rec {l : List Wr} (hn : l.length ≤ 96) (z : List Int) : Has (recL l ++ z) l (sumOf (bodyL l)) := by
  have h1 := bodyL_len l
  have h2 := recL_len l
  refine ⟨hn, by rw [List.length_append]; omega, ?_, ?_⟩
  · unfold recL
    rw [List.append_assoc, List.take_append_of_le_length (by omega), List.take_of_length_le (by omega)]
  · unfold recL
    rw [List.append_assoc, List.getElem?_append_right (by omega), h1]
    simp
theorem Has.hd {ws : List Int} {l : List Wr} {s : Int} (h : Has ws l s) : hd ws = l.length := by
  have : (ws.take (1 + 2 * l.length))[0]? = ws[0]? := by rw [List.getElem?_take_of_lt (by omega)]
  unfold Go.Proofs.YtkopfnldgnkkoaaGreat.hd
  rw [← this, h.take]
  rfl
theorem Has.isR {ws : List Int} {l : List Wr} {s : Int} (h : Has ws l s) : isR ws := by
  refine ⟨by have := h.len; omega, by rw [h.hd]; have := h.n; omega, by rw [h.hd]; have := h.len; simpa using this⟩
theorem Has.endN {ws : List Int} {l : List Wr} {s : Int} (h : Has ws l s) : endN ws = 1 + 2 * l.length := by
  unfold Go.Proofs.YtkopfnldgnkkoaaGreat.endN; rw [h.hd]; simp
theorem Has.readN {ws : List Int} {l : List Wr} {s : Int} (h : Has ws l s) : readN ws = l.length := by
  unfold Go.Proofs.YtkopfnldgnkkoaaGreat.readN; rw [h.hd]; simp
theorem Has.lastR {ws : List Int} {l : List Wr} {s : Int} (h : Has ws l s) : lastR ws = s := by
  unfold Go.Proofs.YtkopfnldgnkkoaaGreat.lastR; rw [h.endN]; exact h.last
theorem Has.mark {ws : List Int} {l : List Wr} {s : Int} (h : Has ws l s) (hs : u64 s) : markV ws = s * 65536 % 18446744073709551616 + (l.length : Int) * 256 + 1 := by
  unfold markV
  rw [if_pos h.isR, h.lastR, h.hd, markF_eq hs (by omega) (by have := h.n; omega)]
theorem Has.pairs {ws : List Int} {l : List Wr} {s : Int} (h : Has ws l s) : pairsN ws l.length = l := by
  apply List.ext_getElem
  · simp [pairsN]
  · intro i h1 h2
    obtain ⟨e1, e2⟩ := bodyP_at l.length l i h2
    have t1 : ws[1 + 2 * i]? = (bodyL l)[1 + 2 * i]? := by rw [← h.take, List.getElem?_take_of_lt (by omega)]
    have t2 : ws[2 + 2 * i]? = (bodyL l)[2 + 2 * i]? := by rw [← h.take, List.getElem?_take_of_lt (by omega)]
    unfold bodyL at t1 t2
    simp only [pairsN, List.getElem_map, List.getElem_range, t1, t2, e1, e2, Option.getD_some]
theorem Has.ok {ws : List Int} {l : List Wr} (h : Has ws l (sumOf (bodyL l))) (g : G) : readOk g ws = (smallTo ws l.length && mayW g l) := by
  unfold readOk
  rw [h.readN, h.pairs, h.endN, h.take, h.lastR]
  simp [h.isR]

/-! ### Writes that may be -/
theorem may_small {g : G} {l : List Wr} (h : mayW g l = true) : l.length ≤ 96 ∧ ∀ i, i < l.length → 0 ≤ atW l i ∧ atW l i < 65536 := by
  unfold mayW at h
  simp only [Bool.and_eq_true, decide_eq_true_eq] at h
  obtain ⟨⟨h1, h2⟩, h3⟩ := h
  refine ⟨h2, fun i hi => ?_⟩
  have h4 := List.all_eq_true.1 h3 i (List.mem_range.2 hi)
  unfold okAt at h4
  simp only [Bool.and_eq_true] at h4
  have h5 := (at_bd (mayB_true.1 h1) 7).2
  by_cases hh : atW l i < 0 ∨ atN g 7 ≤ atW l i
  · have := h4.1
    rw [where_none (.inr hh)] at this
    cases this
  · omega
theorem atW_mem {l : List Wr} {x : Wr} (hx : x ∈ l) : ∃ i, i < l.length ∧ atW l i = x.1 := by
  obtain ⟨i, hi, rfl⟩ := List.getElem_of_mem hx
  exact ⟨i, hi, by simp [atW, hi]⟩
theorem may_neg {g : G} {l : List Wr} (h : mayW g l = true) : neg l = false := by
  rw [Bool.eq_false_iff]
  intro hh
  obtain ⟨x, hx, h2⟩ := List.any_eq_true.1 hh
  obtain ⟨i, hi, he⟩ := atW_mem hx
  have := ((may_small h).2 i hi).1
  simp at h2
  omega
theorem Has.small {ws : List Int} {l : List Wr} {s : Int} (h : Has ws l s) {g : G} (hm : mayW g l = true) : smallTo ws l.length = true := by
  refine List.all_eq_true.2 fun i hi => ?_
  rw [List.mem_range] at hi
  obtain ⟨e1, _⟩ := bodyP_at l.length l i hi
  have t1 : ws[1 + 2 * i]? = (bodyL l)[1 + 2 * i]? := by rw [← h.take, List.getElem?_take_of_lt (by omega)]
  unfold bodyL at t1
  have := ((may_small hm).2 i hi).2
  simp only [atW, List.getElem?_eq_getElem hi, Option.getD_some] at this
  rw [t1, e1]
  simpa using this
theorem Has.ok_may {ws : List Int} {l : List Wr} (h : Has ws l (sumOf (bodyL l))) (g : G) : readOk g ws = mayW g l := by
  rw [h.ok g]
  cases hm : mayW g l with
  | false => simp
  | true => rw [h.small hm]; rfl

/-! ### Another word -/
theorem hd_set {ws : List Int} {k : Nat} {v : Int} (h0 : 0 < k) : hd (ws.set k v) = hd ws := by
  unfold hd; rw [List.getElem?_set_ne (by omega)]
theorem end_set {ws : List Int} {k : Nat} {v : Int} (h0 : 0 < k) : endN (ws.set k v) = endN ws := by unfold endN; rw [hd_set h0]
theorem isR_set {ws : List Int} {k : Nat} {v : Int} (h0 : 0 < k) : isR (ws.set k v) ↔ isR ws := by unfold isR; rw [hd_set h0, List.length_set]
theorem mark_set {ws : List Int} {k : Nat} {v : Int} (h0 : 0 < k) (hk : k ≠ endN ws) : markV (ws.set k v) = markV ws := by
  have hl : lastR (ws.set k v) = lastR ws := by unfold lastR; rw [end_set h0, List.getElem?_set_ne hk]
  unfold markV
  rw [hl, hd_set h0]
  by_cases h : isR ws
  · rw [if_pos h, if_pos ((isR_set h0).2 h)]
  · rw [if_neg h, if_neg (fun hh => h ((isR_set h0).1 hh))]
theorem want_eq {s n : Int} (h0 : 0 ≤ n) (h1 : n ≤ 96) : IntKind.u64.wrap (IntKind.u64.wrap (IntKind.u64.wrap (s * 65536) + n * 256) + 1) = s * 65536 % 18446744073709551616 + n * 256 + 1 := by
  rw [wrap_u64, wrap_u64, wrap_u64]; omega
theorem u64_set {ws : List Int} {k : Nat} {v : Int} (hw : ∀ x ∈ ws, u64 x) (hv : u64 v) : ∀ x ∈ ws.set k v, u64 x := by
  intro x hx
  rcases List.mem_or_eq_of_mem_set hx with h | rfl
  · exact hw x h
  · exact hv
theorem wrap_isU (n : Int) : u64 (IntKind.u64.wrap n) := by rw [wrap_u64]; exact ⟨by omega, by omega⟩

end Go.Proofs.YtkopfnldgnkkoaaGreat
