/-
  REQUESTS, PLAINLY: their bytes, what bytes tell; and the document's answer.
-/
import Derived.Test.YtphcdndohdnolaaOctR
namespace Go.Proofs.Ytphcdndohdnolaa
set_option linter.unusedVariables false

@[ext] structure Rq where
  kind : Int
  flags : Int
  fd : Int
  pos : Int
  size : Int
  path : ByteArray
  dst : ByteArray
  data : ByteArray
deriving DecidableEq

inductive Fd
  | path | flags | fd | pos | size | dst | data
deriving DecidableEq

def zeroRq : Rq := ⟨0, 0, 0, 0, 0, ByteArray.empty, ByteArray.empty, ByteArray.empty⟩
def known (k : Int) : Bool := decide (1 ≤ k) && decide (k ≤ 13)
def fdsOf (k : Int) : List Fd :=
  if k = 1 then [.path, .flags] else if k = 2 then [.fd] else if k = 3 then [.fd, .size] else if k = 4 then [.fd, .data]
  else if k = 5 then [.fd, .pos] else if k = 6 then [.fd, .pos] else if k = 7 then [.path] else if k = 8 then [.path] else if k = 9 then [.path]
  else if k = 10 then [.path, .dst] else if k = 11 then [.path] else if k = 12 then [.path, .dst] else if k = 13 then [.path, .pos] else []

def txtB (s : ByteArray) : List Int := numL s.size ++ strB s
/-- A field's bytes; a request's. -/
def put1 (r : Rq) : Fd → List Int
  | .path => txtB r.path
  | .flags => numL r.flags.toNat
  | .fd => numL r.fd.toNat
  | .pos => numL r.pos.toNat
  | .size => numL r.size.toNat
  | .dst => txtB r.dst
  | .data => txtB r.data
def putL (r : Rq) : List Int := r.kind :: (fdsOf r.kind).flatMap (put1 r)

/-- What is being read: the bytes that are left, are they torn; the request so far. -/
structure Rd where
  zs : List Int
  torn : Bool
  r : Rq
def txtMost : Fd → Int
  | .data => 128
  | _ => 200
def isTxt : Fd → Bool
  | .path => true
  | .dst => true
  | .data => true
  | _ => false
def setTxt (q : Rq) (s : ByteArray) : Fd → Rq
  | .path => { q with path := s }
  | .dst => { q with dst := s }
  | .data => { q with data := s }
  | _ => q
def setNum (q : Rq) (n : Int) : Fd → Rq
  | .flags => { q with flags := min n 255 }
  | .fd => { q with fd := n }
  | .pos => { q with pos := n }
  | .size => { q with size := n }
  | _ => q
def get1 (s : Rd) (f : Fd) : Rd :=
  if isTxt f then ⟨(stepT s.zs s.torn (txtS s.zs (txtMost f))).1, (stepT s.zs s.torn (txtS s.zs (txtMost f))).2, setTxt s.r (txtR s.zs s.torn (txtMost f)) f⟩
  else ⟨(stepT s.zs s.torn (numS s.zs)).1, (stepT s.zs s.torn (numS s.zs)).2, setNum s.r (numR s.zs s.torn) f⟩
def kindR (zs : List Int) : Int := byR zs false
def startR (zs : List Int) : Rd := ⟨(stepT zs false (byS zs)).1, (stepT zs false (byS zs)).2, { zeroRq with kind := kindR zs }⟩
def readS (zs : List Int) : Rd := (fdsOf (kindR zs)).foldl get1 (startR zs)
def readB (zs : List Int) : Bool := known (kindR zs) && endB (readS zs).zs (readS zs).torn && decide ((readS zs).r.flags ≤ 7)

/-- May a request be? Its bytes; the request of bytes. -/
def mayQ (r : Rq) : Bool := readB (putL r) && decide ((readS (putL r)).r = r)
def putQ (r : Rq) : List Int := if mayQ r = true then putL r else []
def getOk (zs : List Int) : Bool := readB zs && decide (putL (readS zs).r = zs)
def getQ (zs : List Int) : Rq := if getOk zs = true then (readS zs).r else zeroRq
def getE (zs : List Int) : Int := if getOk zs = true then 0 else 4

/-- The document's. -/
def set1 (r q : Rq) : Fd → Rq
  | .path => { q with path := r.path }
  | .flags => { q with flags := r.flags }
  | .fd => { q with fd := r.fd }
  | .pos => { q with pos := r.pos }
  | .size => { q with size := r.size }
  | .dst => { q with dst := r.dst }
  | .data => { q with data := r.data }
def onlyQ (r : Rq) : Rq := (fdsOf r.kind).foldl (set1 r) { zeroRq with kind := r.kind }
def mayR (r : Rq) : Bool := known r.kind && decide (onlyQ r = r) && decide (r.flags ≤ 7) && decide (r.path.size ≤ 200) && decide (r.dst.size ≤ 200) && decide (r.data.size ≤ 128)

/-- Of what sizes a request's fields are. -/
structure okRq (r : Rq) : Prop where
  kind : isByte r.kind
  flags : isByte r.flags
  fd : 0 ≤ r.fd ∧ r.fd ≤ 18446744073709551615
  pos : 0 ≤ r.pos ∧ r.pos ≤ 18446744073709551615
  size : 0 ≤ r.size ∧ r.size ≤ 18446744073709551615
  path : r.path.size ≤ 140737488351232
  dst : r.dst.size ≤ 140737488351232
  data : r.data.size ≤ 140737488351232

/-! ### A field is read again -/
theorem num_read (n : Nat) (hn : n < 18446744073709551616) (r : List Int) : numR (numL n ++ r) false = n ∧ stepT (numL n ++ r) false (numS (numL n ++ r)) = (r, false) := by
  obtain ⟨h1, h2, h3⟩ := num_again n hn r
  refine ⟨?_, ?_⟩
  · unfold numR; simp only [Bool.false_eq_true, if_false, h1]
  · unfold stepT
    rw [if_neg (by simp), h2, if_neg (by rw [numL_length]; omega), h3]
theorem txt_read (s : ByteArray) (hs : s.size < 18446744073709551616) (most : Int) (hm : (s.size : Int) ≤ most) (r : List Int) : txtR (txtB s ++ r) false most = s ∧ stepT (txtB s ++ r) false (txtS (txtB s ++ r) most) = (r, false) := by
  unfold txtB
  rw [List.append_assoc]
  obtain ⟨h1, h2, h3⟩ := num_again s.size hs (strB s ++ r)
  have hp : txtP (numL s.size ++ (strB s ++ r)) most := by
    refine ⟨by rw [h2, numL_length]; omega, by omega, by rw [h1]; exact hm, ?_⟩
    rw [h1, h2, List.length_append, List.length_append, strB_length]
    omega
  obtain ⟨y1, y2⟩ := txt_yes hp
  have hL : txtL (numL s.size ++ (strB s ++ r)) = strB s := by
    unfold txtL
    rw [h2, h3, h1, Int.toNat_natCast, List.take_append_of_le_length (by rw [strB_length]; exact Nat.le_refl _), List.take_of_length_le (by rw [strB_length]; exact Nat.le_refl _)]
  refine ⟨?_, ?_⟩
  · unfold txtR
    simp only [Bool.false_eq_true, if_false, y1, hL, strOf_strB]
  · unfold stepT
    rw [if_neg (by simp), y2, h1, h2, Int.toNat_natCast, if_neg (by rw [numL_length]; omega)]
    congr 1
    rw [← List.append_assoc, show (numL s.size).length + s.size = (numL s.size ++ strB s).length by rw [List.length_append, strB_length], List.drop_left]
theorem txt_tears (s : ByteArray) (hs : s.size < 18446744073709551616) (most : Int) (hm : most < (s.size : Int)) (r : List Int) : (stepT (txtB s ++ r) false (txtS (txtB s ++ r) most)).2 = true := by
  unfold txtB
  rw [List.append_assoc]
  obtain ⟨h1, h2, h3⟩ := num_again s.size hs (strB s ++ r)
  have hno : ¬ txtP (numL s.size ++ (strB s ++ r)) most := fun h => by
    have := h.2.2.1
    rw [h1] at this
    omega
  unfold stepT
  rw [if_neg (by simp), (txt_no hno).2, if_pos rfl]
/-- May a field be as long as it is? -/
def fits (r : Rq) : Fd → Prop
  | .path => r.path.size ≤ 200
  | .dst => r.dst.size ≤ 200
  | .data => r.data.size ≤ 128
  | _ => True
instance (r : Rq) (f : Fd) : Decidable (fits r f) := by unfold fits; cases f <;> infer_instance
theorem get_put {r : Rq} (hr : okRq r) {f : Fd} (hf : fits r f) (q : Rq) (z : List Int) : get1 ⟨put1 r f ++ z, false, q⟩ f = ⟨z, false, set1 r q f⟩ := by
  cases f with
  | path =>
    obtain ⟨h1, h2⟩ := txt_read r.path (by have := hr.path; omega) 200 (by unfold fits at hf; omega) z
    simp only [get1, isTxt, txtMost, put1, if_true, h1, h2, setTxt, set1]
  | dst =>
    obtain ⟨h1, h2⟩ := txt_read r.dst (by have := hr.dst; omega) 200 (by unfold fits at hf; omega) z
    simp only [get1, isTxt, txtMost, put1, if_true, h1, h2, setTxt, set1]
  | data =>
    obtain ⟨h1, h2⟩ := txt_read r.data (by have := hr.data; omega) 128 (by unfold fits at hf; omega) z
    simp only [get1, isTxt, txtMost, put1, if_true, h1, h2, setTxt, set1]
  | flags =>
    obtain ⟨f0, f1⟩ := hr.flags
    obtain ⟨h1, h2⟩ := num_read r.flags.toNat (by omega) z
    have : ((r.flags.toNat : Nat) : Int) = r.flags := by omega
    rw [this] at h1
    simp only [get1, isTxt, put1, Bool.false_eq_true, if_false, h1, h2, setNum, set1, Int.min_eq_left f1]
  | fd =>
    obtain ⟨f0, f1⟩ := hr.fd
    obtain ⟨h1, h2⟩ := num_read r.fd.toNat (by omega) z
    have : ((r.fd.toNat : Nat) : Int) = r.fd := by omega
    rw [this] at h1
    simp only [get1, isTxt, put1, Bool.false_eq_true, if_false, h1, h2, setNum, set1]
  | pos =>
    obtain ⟨f0, f1⟩ := hr.pos
    obtain ⟨h1, h2⟩ := num_read r.pos.toNat (by omega) z
    have : ((r.pos.toNat : Nat) : Int) = r.pos := by omega
    rw [this] at h1
    simp only [get1, isTxt, put1, Bool.false_eq_true, if_false, h1, h2, setNum, set1]
  | size =>
    obtain ⟨f0, f1⟩ := hr.size
    obtain ⟨h1, h2⟩ := num_read r.size.toNat (by omega) z
    have : ((r.size.toNat : Nat) : Int) = r.size := by omega
    rw [this] at h1
    simp only [get1, isTxt, put1, Bool.false_eq_true, if_false, h1, h2, setNum, set1]
theorem get_tears {r : Rq} (hr : okRq r) {f : Fd} (hf : ¬ fits r f) (q : Rq) (z : List Int) : (get1 ⟨put1 r f ++ z, false, q⟩ f).torn = true := by
  cases f with
  | path => simpa only [get1, isTxt, txtMost, put1, if_true] using txt_tears r.path (by have := hr.path; omega) 200 (by unfold fits at hf; omega) z
  | dst => simpa only [get1, isTxt, txtMost, put1, if_true] using txt_tears r.dst (by have := hr.dst; omega) 200 (by unfold fits at hf; omega) z
  | data => simpa only [get1, isTxt, txtMost, put1, if_true] using txt_tears r.data (by have := hr.data; omega) 128 (by unfold fits at hf; omega) z
  | _ => exact absurd trivial hf
theorem get_torn (s : Rd) (f : Fd) (h : s.torn = true) : (get1 s f).torn = true := by
  unfold get1; split <;> (simp only [h]; rfl)
theorem gets_torn : ∀ (l : List Fd) (s : Rd), s.torn = true → (l.foldl get1 s).torn = true
  | [], _, h => h
  | f :: l, s, h => gets_torn l _ (get_torn s f h)
theorem gets_put {r : Rq} (hr : okRq r) (z : List Int) : ∀ (l : List Fd) (q : Rq), (∀ f ∈ l, fits r f) → l.foldl get1 ⟨l.flatMap (put1 r) ++ z, false, q⟩ = ⟨z, false, l.foldl (set1 r) q⟩
  | [], q, _ => rfl
  | f :: l, q, h => by
    rw [List.flatMap_cons, List.append_assoc, List.foldl_cons, get_put hr (h f List.mem_cons_self), gets_put hr z l _ (fun g hg => h g (List.mem_cons_of_mem _ hg)), List.foldl_cons]
theorem gets_tears {r : Rq} (hr : okRq r) (z : List Int) : ∀ (l : List Fd) (q : Rq), ¬ (∀ f ∈ l, fits r f) → (l.foldl get1 ⟨l.flatMap (put1 r) ++ z, false, q⟩).torn = true
  | [], q, h => absurd (fun f hf => by cases hf) h
  | f :: l, q, h => by
    rw [List.flatMap_cons, List.append_assoc, List.foldl_cons]
    by_cases hf : fits r f
    · rw [get_put hr hf]
      exact gets_tears hr z l _ (fun hh => h (fun g hg => by rcases List.mem_cons.1 hg with rfl | hg; exact hf; exact hh g hg))
    · exact gets_torn l _ (get_tears hr hf q _)

/-! ### A request is read again -/
theorem start_put (r : Rq) (z : List Int) : startR (putL r ++ z) = ⟨(fdsOf r.kind).flatMap (put1 r) ++ z, false, { zeroRq with kind := r.kind }⟩ := by
  simp [startR, putL, kindR, byR, byV, byS, stepT]
theorem kind_put (r : Rq) (z : List Int) : kindR (putL r ++ z) = r.kind := by simp [putL, kindR, byR, byV]
theorem read_put {r : Rq} (hr : okRq r) (h : ∀ f ∈ fdsOf r.kind, fits r f) (z : List Int) : readS (putL r ++ z) = ⟨z, false, onlyQ r⟩ := by
  unfold readS
  rw [kind_put, start_put, gets_put hr z _ _ h]
  rfl
theorem read_long {r : Rq} (hr : okRq r) (h : ¬ ∀ f ∈ fdsOf r.kind, fits r f) (z : List Int) : (readS (putL r ++ z)).torn = true := by
  unfold readS
  rw [kind_put, start_put]
  exact gets_tears hr z _ _ h

/-- What a kind's fields are, by cases. -/
theorem known_cases {k : Int} (h : known k = true) : k = 1 ∨ k = 2 ∨ k = 3 ∨ k = 4 ∨ k = 5 ∨ k = 6 ∨ k = 7 ∨ k = 8 ∨ k = 9 ∨ k = 10 ∨ k = 11 ∨ k = 12 ∨ k = 13 := by
  simp only [known, Bool.and_eq_true, decide_eq_true_eq] at h
  omega
theorem fits_all {r : Rq} (hr : onlyQ r = r) (hp : r.path.size ≤ 200) (ht : r.dst.size ≤ 200) (hd : r.data.size ≤ 128) (f : Fd) : fits r f := by
  cases f <;> first | exact hp | exact ht | exact hd | trivial
theorem empty_size : ByteArray.empty.size = 0 := rfl
/-- The fields that a request has are as long as may be, if those of its kind are. -/
theorem fits_only {r : Rq} (ho : onlyQ r = r) (h : ∀ f ∈ fdsOf r.kind, fits r f) : r.path.size ≤ 200 ∧ r.dst.size ≤ 200 ∧ r.data.size ≤ 128 := by
  have hp : Fd.path ∈ fdsOf r.kind ∨ r.path = ByteArray.empty := by
    by_cases hm : Fd.path ∈ fdsOf r.kind
    · exact .inl hm
    · refine .inr ?_
      rw [← ho]
      have : ∀ (l : List Fd) (q : Rq), Fd.path ∉ l → (l.foldl (set1 r) q).path = q.path := by
        intro l
        induction l with
        | nil => intro q _; rfl
        | cons f l ih =>
          intro q hq
          rw [List.foldl_cons, ih _ (fun hh => hq (List.mem_cons_of_mem _ hh))]
          cases f <;> first | rfl | exact absurd List.mem_cons_self hq
      exact this _ _ hm
  have ht : Fd.dst ∈ fdsOf r.kind ∨ r.dst = ByteArray.empty := by
    by_cases hm : Fd.dst ∈ fdsOf r.kind
    · exact .inl hm
    · refine .inr ?_
      rw [← ho]
      have : ∀ (l : List Fd) (q : Rq), Fd.dst ∉ l → (l.foldl (set1 r) q).dst = q.dst := by
        intro l
        induction l with
        | nil => intro q _; rfl
        | cons f l ih =>
          intro q hq
          rw [List.foldl_cons, ih _ (fun hh => hq (List.mem_cons_of_mem _ hh))]
          cases f <;> first | rfl | exact absurd List.mem_cons_self hq
      exact this _ _ hm
  have hd : Fd.data ∈ fdsOf r.kind ∨ r.data = ByteArray.empty := by
    by_cases hm : Fd.data ∈ fdsOf r.kind
    · exact .inl hm
    · refine .inr ?_
      rw [← ho]
      have : ∀ (l : List Fd) (q : Rq), Fd.data ∉ l → (l.foldl (set1 r) q).data = q.data := by
        intro l
        induction l with
        | nil => intro q _; rfl
        | cons f l ih =>
          intro q hq
          rw [List.foldl_cons, ih _ (fun hh => hq (List.mem_cons_of_mem _ hh))]
          cases f <;> first | rfl | exact absurd List.mem_cons_self hq
      exact this _ _ hm
  refine ⟨?_, ?_, ?_⟩
  · rcases hp with h1 | h1
    · exact h _ h1
    · rw [h1, empty_size]; omega
  · rcases ht with h1 | h1
    · exact h _ h1
    · rw [h1, empty_size]; omega
  · rcases hd with h1 | h1
    · exact h _ h1
    · rw [h1, empty_size]; omega

/-- THE PROGRAM's May IS THE DOCUMENT's. -/
theorem may_eq {r : Rq} (hr : okRq r) : mayQ r = mayR r := by
  by_cases h : ∀ f ∈ fdsOf r.kind, fits r f
  · have h1 := read_put hr h []
    have hk := kind_put r []
    rw [List.append_nil] at h1 hk
    have : mayQ r = (known r.kind && decide ((onlyQ r).flags ≤ 7) && decide (onlyQ r = r)) := by
      unfold mayQ readB
      rw [hk, h1]
      simp [endB]
    rw [this]
    unfold mayR
    by_cases ho : onlyQ r = r
    · obtain ⟨s1, s2, s3⟩ := fits_only ho h
      rw [ho]
      simp [s1, s2, s3]
    · simp [ho]
  · have h1 := read_long hr h []
    rw [List.append_nil] at h1
    have e1 : mayQ r = false := by
      unfold mayQ readB endB
      rw [h1]; simp
    rw [e1]
    symm
    rw [Bool.eq_false_iff]
    intro hm
    simp only [mayR, Bool.and_eq_true, decide_eq_true_eq] at hm
    obtain ⟨⟨⟨⟨⟨_, m2⟩, _⟩, m4⟩, m5⟩, m6⟩ := hm
    exact h (fun f _ => fits_all m2 m4 m5 m6 f)

/-- What may be is read again; nothing is left. -/
theorem may_read {r : Rq} (hr : okRq r) (h : mayQ r = true) (z : List Int) : readS (putL r ++ z) = ⟨z, false, r⟩ := by
  have hm := h
  rw [may_eq hr] at hm
  simp only [mayR, Bool.and_eq_true, decide_eq_true_eq] at hm
  obtain ⟨⟨⟨⟨⟨_, m2⟩, _⟩, m4⟩, m5⟩, m6⟩ := hm
  rw [read_put hr (fun f _ => fits_all m2 m4 m5 m6 f), m2]
theorem may_known {r : Rq} (hr : okRq r) (h : mayQ r = true) : known r.kind = true ∧ r.flags ≤ 7 := by
  rw [may_eq hr] at h
  simp only [mayR, Bool.and_eq_true, decide_eq_true_eq] at h
  exact ⟨h.1.1.1.1.1, h.1.1.1.2⟩
theorem get_put_ok {r : Rq} (hr : okRq r) (h : mayQ r = true) : getOk (putL r) = true ∧ getQ (putL r) = r ∧ getE (putL r) = 0 := by
  have h1 := may_read hr h []
  rw [List.append_nil] at h1
  have h2 : readB (putL r) = true := by
    have := h; unfold mayQ at this; simp only [Bool.and_eq_true] at this; exact this.1
  have h3 : getOk (putL r) = true := by unfold getOk; rw [h2, h1]; simp
  refine ⟨h3, ?_, ?_⟩
  · unfold getQ; rw [if_pos h3, h1]
  · unfold getE; rw [if_pos h3]
theorem get_ok {zs : List Int} (h : getOk zs = true) : mayQ (getQ zs) = true ∧ putL (getQ zs) = zs := by
  have h2 := h
  simp only [getOk, Bool.and_eq_true, decide_eq_true_eq] at h2
  have h3 : getQ zs = (readS zs).r := if_pos h
  rw [h3]
  refine ⟨?_, h2.2⟩
  unfold mayQ
  rw [h2.2, h2.1]; simp
theorem get_no {zs : List Int} (h : getOk zs = false) : getQ zs = zeroRq ∧ getE zs = 4 := ⟨if_neg (by rw [h]; decide), if_neg (by rw [h]; decide)⟩

/-- The document's Get, of what has been read. -/
def okR (zs : List Int) (s : Rd) : Bool := !s.torn && decide (s.zs.length = 0) && mayR s.r && decide (putL s.r = zs)
theorem getR_eq {zs : List Int} (hr : okRq (readS zs).r) (hk : (readS zs).r.kind = kindR zs) : okR zs (readS zs) = getOk zs := by
  by_cases h : getOk zs = true
  · obtain ⟨h1, h2⟩ := get_ok h
    have h3 : getQ zs = (readS zs).r := if_pos h
    rw [h3] at h1 h2
    rw [h]
    have h4 := h
    simp only [getOk, readB, Bool.and_eq_true, decide_eq_true_eq, endB] at h4
    rw [may_eq hr] at h1
    unfold okR
    simp only [Bool.and_eq_true, Bool.not_eq_true', decide_eq_true_eq]
    exact ⟨⟨⟨by simpa using h4.1.1.2.1, h4.1.1.2.2⟩, h1⟩, h2⟩
  · rw [Bool.not_eq_true] at h
    rw [h, Bool.eq_false_iff]
    intro hh
    simp only [okR, Bool.and_eq_true, Bool.not_eq_true', decide_eq_true_eq] at hh
    obtain ⟨⟨⟨h1, h2⟩, h3⟩, h4⟩ := hh
    have h5 := h3
    rw [← may_eq hr] at h5
    obtain ⟨k1, k2⟩ := may_known hr h5
    rw [hk] at k1
    have : getOk zs = true := by
      unfold getOk readB endB
      simp [k1, k2, h1, h2, h4]
    rw [h] at this; cases this
theorem kind_gets (l : List Fd) (s : Rd) : (l.foldl get1 s).r.kind = s.r.kind := by
  induction l generalizing s with
  | nil => rfl
  | cons f l ih =>
    rw [List.foldl_cons, ih]
    unfold get1
    split
    · cases f <;> rfl
    · cases f <;> rfl
theorem kind_readS (zs : List Int) : (readS zs).r.kind = kindR zs := by unfold readS; rw [kind_gets]; rfl
/-- Of unknown kinds there is nothing. -/
theorem get_unknown {zs : List Int} (h : known (kindR zs) = false) : getOk zs = false := by unfold getOk readB; rw [h]; rfl
theorem may_unknown {r : Rq} (h : known r.kind = false) : mayQ r = false := by
  have := kind_put r []
  rw [List.append_nil] at this
  unfold mayQ readB; rw [this, h]; rfl
theorem mayR_unknown {r : Rq} (h : known r.kind = false) : mayR r = false := by unfold mayR; rw [h]; rfl

end Go.Proofs.Ytphcdndohdnolaa
