/-
  THE WALK OF request.read.
-/
import Derived.Deep.DeepCutAuto
import Derived.Outline
import Derived.Test.YtphcdndohdnolaaRqP
namespace Go.Proofs.Ytphcdndohdnolaa
open Go.RowKit Go.Shelf
set_option linter.unusedVariables false

theorem takeD {P : Program} {ops : Array Oper} {Q : Exit → Act → World → Prop} {md : Region.Mode} {S : World → Prop} {i : Nat} {oi : Oper} {v : Value} {fuel : Nat} {listed : Array Bool} {a : Act} {w : World} (d : Nat) (hi : ops[i]? = some oi) (hd : oi.dst = some d)
    (hs : Region.noSelect ops = true) (hf : Region.free md ops listed i = true) (hr : (Region.ready md ops listed).contains i = true)
    (hQ : ∀ c a w, Q (.panic c) (a.put oi.dst v) w → Q (.panic c) a w) (hy : YieldsIf P ops S oi v a) (hS : S w)
    (h : wpAnyH P md ops Q S fuel (listed.setIfInBounds i true) { a with tmps := a.tmps.setIfInBounds d v } w) : wpAnyH P md ops Q S (fuel + 1) listed a w := by
  refine wpAnyH_take hi hs hf hr hQ hy hS ?_
  rw [hd]; exact h

/-- What read tells. -/
def ReadP (zs : List Int) (w : World) (e : Ending) (w' : World) : Prop := e = .returned (.tuple #[rqV (readS zs).r, .bool (readB zs)]) ∧ Nw w w'
def readT (zs : List Int) (j : Nat) : Rd := ((fdsOf (kindR zs)).take j).foldl get1 (startR zs)
theorem readT_succ {zs : List Int} {j : Nat} (h : j < (fdsOf (kindR zs)).length) : readT zs (j + 1) = get1 (readT zs j) ((fdsOf (kindR zs))[j]?.getD .flags) := by
  unfold readT
  rw [List.take_succ_eq_append_getElem h, List.foldl_append, List.getElem?_eq_getElem h]
  rfl
theorem readT_all (zs : List Int) : readT zs (fdsOf (kindR zs)).length = readS zs := by unfold readT readS; rw [List.take_length]
theorem kind_readT (zs : List Int) (j : Nat) : (readT zs j).r.kind = kindR zs := by unfold readT; rw [kind_gets]; rfl

theorem getf_text {f : Fd} (hf : isTxt f = true) {lo : Nat} {W : World} {p g : Value} (h : FieldIs lo W f p g) : ∃ B2 B, p = .func (.func 50) #[] #[.pointer (some ⟨B, 0, none⟩)] ∧ g = .func (.func 51) #[] #[.pointer (some ⟨B2, 0, none⟩), .pointer (some ⟨B, 0, none⟩)] ∧
    ∀ X, Nw W X → ∀ (s : Rd) (t b L : Nat), b < L → b ≠ t → t < lo → b < lo → TapeL X t s.zs s.torn L → RqAt X b s.r → Calls Try.prog 51 #[.pointer (some ⟨t, 0, none⟩), .pointer (some ⟨b, 0, none⟩), .pointer (some ⟨B2, 0, none⟩), .pointer (some ⟨B, 0, none⟩)] X (GetP f t b L s X) := by
  obtain ⟨B2, B, h1, h2, h3, h4, h5, h6⟩ := (fieldIs_text hf).1 h
  exact ⟨B2, B, h3, h4, fun X hN s t b L hbL hbt ht hb hT hR => get_text f hf s t b L hbL hbt B2 B (by omega) (by omega) (by omega) (by omega) X hT hR ((hN.b.cell (p := ⟨B, 0, none⟩) (cell_lt h5).1).trans h5) ((hN.b.cell (p := ⟨B2, 0, none⟩) (cell_lt h6).1).trans h6)⟩
theorem getf_num {f : Fd} (hf : isTxt f = false) (hff : f ≠ .flags) {lo : Nat} {W : World} {p g : Value} (h : FieldIs lo W f p g) : ∃ B, p = .func (.func 53) #[] #[.pointer (some ⟨B, 0, none⟩)] ∧ g = .func (.func 54) #[] #[.pointer (some ⟨B, 0, none⟩)] ∧
    ∀ X, Nw W X → ∀ (s : Rd) (t b L : Nat), b < L → b ≠ t → t < lo → b < lo → TapeL X t s.zs s.torn L → RqAt X b s.r → Calls Try.prog 54 #[.pointer (some ⟨t, 0, none⟩), .pointer (some ⟨b, 0, none⟩), .pointer (some ⟨B, 0, none⟩)] X (GetP f t b L s X) := by
  obtain ⟨B, h1, h3, h4, h5⟩ := (fieldIs_num hf hff).1 h
  exact ⟨B, h3, h4, fun X hN s t b L hbL hbt ht hb hT hR => get_num f hf hff s t b L hbL hbt B (by omega) X hT hR ((hN.b.cell (p := ⟨B, 0, none⟩) (cell_lt h5).1).trans h5)⟩

theorem load_rq (W : World) (b : Nat) (q : Rq) (hR : RqAt W b q) : (loadVar 24 ⟨b, 0, none⟩).run Try.prog W = .ok (rqV q) W := by
  obtain ⟨c0, c1, c2, c3, c4, c5, c6, c7, _⟩ := hR
  simp [loadVar, go_sem, c0, c1, c2, c3, c4, c5, c6, c7, rqV]
theorem results_rq {fn : Func} {p t : Tmp} (h : fn.results = #[.cell p 24, .tmp t]) (tmps : Array Value) (W : World) (b : Nat) (q : Rq) (hp : tmps.getD p undef = .pointer (some ⟨b, 0, none⟩)) (hR : RqAt W b q) :
    (results fn tmps).run Try.prog W = .ok (.tuple #[rqV q, tmps.getD t undef]) W := by
  have hp' : tmps[p]?.getD undef = .pointer (some ⟨b, 0, none⟩) := by simpa using hp
  simp [results, h, hp', asAddr, load_rq W b q hR]

set_option maxRecDepth 100000 in
set_option maxHeartbeats 8000000 in
theorem read_any (a : Option Addr) (len cap : Nat) (zs : List Int) (hl : zs.length = len) (hreach : len ≤ 140737488355000) (hz : ∀ x ∈ zs, isByte x) (w : World) (hI : Ints w.heap.size .u8 w a zs) :
    Calls Try.prog 19 #[.slice a len cap] w (ReadP zs w) := by
  have hn0 : Nw w (w.alloc (.cells #[.int .u8 0, .int .u8 0, .int .u64 0, .int .u64 0, .int .u64 0, .string ⟨#[]⟩, .string ⟨#[]⟩, .string ⟨#[]⟩] 24)) := Nw.refl.alloc _
  have R0 : RqAt (w.alloc (.cells #[.int .u8 0, .int .u8 0, .int .u64 0, .int .u64 0, .int .u64 0, .string ⟨#[]⟩, .string ⟨#[]⟩, .string ⟨#[]⟩] 24)) w.heap.size zeroRq := RqAt.new w zeroRq
  have HNW := Lib.hid (new_tl a len cap zs hl hreach hz _ (hn0.ints hI))
  have hsz : (w.alloc (.cells #[.int .u8 0, .int .u8 0, .int .u64 0, .int .u64 0, .int .u64 0, .string ⟨#[]⟩, .string ⟨#[]⟩, .string ⟨#[]⟩] 24)).heap.size = w.heap.size + 1 := by simp
  clear hl hI hz
  generalize hW : w.alloc (.cells #[.int .u8 0, .int .u8 0, .int .u64 0, .int .u64 0, .int .u64 0, .string ⟨#[]⟩, .string ⟨#[]⟩, .string ⟨#[]⟩] 24) = W1 at hn0 R0 HNW hsz
  have HN0 := Lib.hid hn0
  have HR0 := Lib.hid R0
  clear hn0 R0
  go_enter Try.func19, Try.ntmps19
  go_upto_region 1 with fail
  clear hW
  go_wp2_with fail
  refine HNW.out.mono ?_
  rintro e W2 ⟨t, rfl, ht, hT, hN⟩
  have hLT := hT.lt
  rw [hsz] at ht hT
  have HR2 := Lib.hid (HR0.out.nw hN)
  have HN2 := Lib.hid (HN0.out.trans hN)
  have HB := Lib.hid (tbyte_tl t zs false (w.heap.size + 1) W2 hT)
  have ht2 : w.heap.size ≤ t := by omega
  clear hN hT HR0 HN0 HNW hsz
  have hbt : w.heap.size ≠ t := by omega
  have hbT := Lib.hid hbt
  go_wp2_with fail
  refine HB.out.mono ?_
  rintro e W3 ⟨rfl, hT3, hU3⟩
  have R3 := HR2.out.up hU3 hbt
  have HT3 := Lib.hid hT3
  have HUU3 := Lib.hid hU3
  have c0 := R3.c0
  have f0 := R3.f 0
  have HR3 := Lib.hid R3
  clear hT3 hU3 R3 HB
  go_upto_region 3 with fail
  have HU4 := Lib.hid ((Up.refl w.heap.size W3).set 0 (.int .u8 (byR zs false)))
  have HT4 := Lib.hid (HT3.out.other HU4.out hbt (by omega))
  have HR4 := Lib.hid (HR3.out.set0 (byR zs false))
  have HUP4 := Lib.hid (Up2.trans (Up2.l HUU3.out) (Up2.r (t := t) HU4.out))
  clear HT3 HR3 HUU3 HU4 c0 f0
  generalize W3.setCell ⟨w.heap.size, 0, none⟩ (.int .u8 (byR zs false)) = W4 at HT4 HR4 HUP4 ⊢
  have c0 := HR4.out.c0
  dsimp only at c0
  rw [show byR zs false = kindR zs from rfl] at c0 ⊢
  have htl4 : t < W4.heap.size := HT4.out.lt
  have hbl4 : w.heap.size < W4.heap.size := HR4.out.lt
  go_region_held3 (fun w' => w'.cell? ⟨w.heap.size, 0, none⟩ = some (.int .u8 (kindR zs)))
    (first | (exact c0) | (exact (kx.b.cell (p := ⟨w.heap.size, 0, none⟩) (cell_lt c0).1).trans c0))
    ((go_at_call 32; refine (kinds_of (kindR zs) _).mono ?_; rintro e w2 ⟨M, rfl, kx, sa, hS, hl1, hl2⟩))
  have kn := Nw.refl.drew.trans kx
  have HS2 := Lib.hid hS
  have htlo : t < W4.drew.heap.size := htl4
  have hblo : w.heap.size < W4.drew.heap.size := hbl4
  generalize W4.drew.heap.size = lo at HS2 htlo hblo
  have HT2 := Lib.hid (show TapeL w2 t (readT zs 0).zs (readT zs 0).torn (w.heap.size + 1) from HT4.out.nw kn)
  have HR2' := Lib.hid (show RqAt w2 w.heap.size (readT zs 0).r from HR4.out.nw kn)
  have HUP := Lib.hid (HUP4.out.trans (Up2.l (Up.of_nw kn)))
  have HLEN := Lib.hid (fs_len (kindR zs))
  obtain ⟨n, hn⟩ : ∃ n, (fdsOf (kindR zs)).length = n := ⟨_, rfl⟩
  rw [hn] at HLEN
  have HN := Lib.hid hn
  have hn2 := HLEN.out
  clear kx kn hS hl1 hl2 c0 HT4 HR4 HUP4 htl4 hbl4
  simp only [hn]
  clear hn
  go_wp2_with fail
  go_loopw [22] (fun i wr => ∃ j : Nat, j ≤ n ∧ i = .int .i64 j ∧ TapeL wr t (readT zs j).zs (readT zs j).torn (w.heap.size + 1) ∧ RqAt wr w.heap.size (readT zs j).r ∧ Up2 t w.heap.size w2 wr) (fun i _ => n - (intOf i).toNat)
  case atStart => exact ⟨0, Nat.zero_le _, rfl, HT2.out, HR2'.out, Up2.refl _ _ _⟩
  case round =>
    obtain ⟨j, hj, rfl, hT, hR, hU⟩ := hrel
    by_cases hlt : j < n
    · rcases HS2.out.up2 hU htlo hblo with ⟨h0, _⟩ | ⟨s, rfl, hlo, hcs⟩
      · rw [← HN.out, h0] at hlt; simp at hlt
      have HUP := Lib.hid hU
      obtain ⟨p, g, cp, cg, hF⟩ := hcs j (by rw [HN.out]; exact hlt)
      have HPT := Lib.hid (readT_succ (zs := zs) (j := j) (by rw [HN.out]; exact hlt))
      obtain ⟨f, hf⟩ : ∃ f, (fdsOf (kindR zs))[j]?.getD .flags = f := ⟨_, rfl⟩
      rw [hf] at hF HPT
      clear hcs hf hU HT2 HR2'
      by_cases ht : isTxt f = true
      · obtain ⟨B2, B, rfl, rfl, hC⟩ := getf_text ht hF
        have HC := Lib.hid hC
        clear hC hF ht
        have hC := HC.out (wr.alloc (.cells #[.func (.func 50) #[] #[.pointer (some ⟨B, 0, none⟩)], .func (.func 51) #[] #[.pointer (some ⟨B2, 0, none⟩), .pointer (some ⟨B, 0, none⟩)]] 61)) (Nw.refl.alloc _) (readT zs j) t w.heap.size (w.heap.size + 1) (by omega) hbt htlo hblo (hT.nw (Nw.refl.alloc _)) (hR.nw (Nw.refl.alloc _))
        have HC2 := Lib.hid hC
        have HB5 := Lib.hid (Up2.l (t := t) (b := w.heap.size) (Up.of_nw (Nw.refl.alloc (w0 := wr) (.cells #[.func (.func 50) #[] #[.pointer (some ⟨B, 0, none⟩)], .func (.func 51) #[] #[.pointer (some ⟨B2, 0, none⟩), .pointer (some ⟨B, 0, none⟩)]] 61))))
        clear hC hT hR HC
        go_wp2_with fail
        refine HC2.out.mono ?_
        rintro e w5 ⟨rfl, hT5, hR5, hU5⟩
        clear cp cg
        go_wp2_with fail
        go_roundw
        case rel => exact ⟨j + 1, by omega, by go_num, by rw [HPT.out]; exact hT5, by rw [HPT.out]; exact hR5, HUP.out.trans (HB5.out.trans hU5)⟩
        case measure => simp [intOf]; omega
      have ht' : isTxt f = false := by simpa using ht
      by_cases hff : f = .flags
      · subst hff
        obtain ⟨rfl, rfl⟩ := hF
        have HC := Lib.hid (fun (X : World) (hN : Nw wr X) (s : Rd) (t b L : Nat) (h1 : b < L) (h2 : b ≠ t) (h3 : t < lo) (h4 : b < lo) (hT : TapeL X t s.zs s.torn L) (hR : RqAt X b s.r) => get_flags s t b L h1 h2 X hT hR)
        clear ht ht'
        have hC := HC.out (wr.alloc (.cells #[.func (.func 47) #[] #[], .func (.func 48) #[] #[]] 61)) (Nw.refl.alloc _) (readT zs j) t w.heap.size (w.heap.size + 1) (by omega) hbt htlo hblo (hT.nw (Nw.refl.alloc _)) (hR.nw (Nw.refl.alloc _))
        have HC2 := Lib.hid hC
        have HB5 := Lib.hid (Up2.l (t := t) (b := w.heap.size) (Up.of_nw (Nw.refl.alloc (w0 := wr) (.cells #[.func (.func 47) #[] #[], .func (.func 48) #[] #[]] 61))))
        clear hC hT hR HC
        go_wp2_with fail
        refine HC2.out.mono ?_
        rintro e w5 ⟨rfl, hT5, hR5, hU5⟩
        clear cp cg
        go_wp2_with fail
        go_roundw
        case rel => exact ⟨j + 1, by omega, by go_num, by rw [HPT.out]; exact hT5, by rw [HPT.out]; exact hR5, HUP.out.trans (HB5.out.trans hU5)⟩
        case measure => simp [intOf]; omega
      · obtain ⟨B, rfl, rfl, hC⟩ := getf_num ht' hff hF
        have HC := Lib.hid hC
        clear hC hF ht ht' hff
        have hC := HC.out (wr.alloc (.cells #[.func (.func 53) #[] #[.pointer (some ⟨B, 0, none⟩)], .func (.func 54) #[] #[.pointer (some ⟨B, 0, none⟩)]] 61)) (Nw.refl.alloc _) (readT zs j) t w.heap.size (w.heap.size + 1) (by omega) hbt htlo hblo (hT.nw (Nw.refl.alloc _)) (hR.nw (Nw.refl.alloc _))
        have HC2 := Lib.hid hC
        have HB5 := Lib.hid (Up2.l (t := t) (b := w.heap.size) (Up.of_nw (Nw.refl.alloc (w0 := wr) (.cells #[.func (.func 53) #[] #[.pointer (some ⟨B, 0, none⟩)], .func (.func 54) #[] #[.pointer (some ⟨B, 0, none⟩)]] 61))))
        clear hC hT hR HC
        go_wp2_with fail
        refine HC2.out.mono ?_
        rintro e w5 ⟨rfl, hT5, hR5, hU5⟩
        clear cp cg
        go_wp2_with fail
        go_roundw
        case rel => exact ⟨j + 1, by omega, by go_num, by rw [HPT.out]; exact hT5, by rw [HPT.out]; exact hR5, HUP.out.trans (HB5.out.trans hU5)⟩
        case measure => simp [intOf]; omega
    · obtain rfl : j = n := by omega
      have HPA := Lib.hid (show readT zs j = readS zs from by rw [← HN.out]; exact readT_all zs)
      rw [HPA.out] at hT hR
      have HBL := Lib.hid (Up2.below HN2.out.b (HUP.out.trans hU) HN2.out.b.size ht2 (Nat.le_refl _))
      have HRV := Lib.hid (show rqV (readS zs).r = .agg #[.int .u8 (readS zs).r.kind, .int .u8 (readS zs).r.flags, .int .u64 (readS zs).r.fd, .int .u64 (readS zs).r.pos, .int .u64 (readS zs).r.size, .string (readS zs).r.path, .string (readS zs).r.dst, .string (readS zs).r.data] from rfl)
      have HRB := Lib.hid (show readB zs = (known (kindR zs) && endB (readS zs).zs (readS zs).torn && decide ((readS zs).r.flags ≤ 7)) from rfl)
      have HE := Lib.hid (end_any t _ _ wr.drew (hT.nw Nw.refl.drew).t)
      obtain ⟨kn, hkn⟩ : ∃ kn, known (kindR zs) = kn := ⟨_, rfl⟩
      obtain ⟨en, hen⟩ : ∃ en, endB (readS zs).zs (readS zs).torn = en := ⟨_, rfl⟩
      obtain ⟨q, hq⟩ : ∃ q, (readS zs).r = q := ⟨_, rfl⟩
      rw [hkn, hen, hq] at HRB
      rw [hen] at HE
      rw [hq] at HRV hR
      simp only [hkn]
      have HR := Lib.hid hR
      obtain ⟨c0, c1, c2, c3, c4, c5, c6, c7, ff⟩ := hR
      have f0 := ff 0
      have f1 := ff 1
      have f2 := ff 2
      have f3 := ff 3
      have f4 := ff 4
      have f5 := ff 5
      have f6 := ff 6
      have f7 := ff 7
      have hq' := Lib.hid hq
      have R8 : RqAt _ _ q := (((((((HR.out.set0 q.kind).set1 q.flags).set2 q.fd).set3 q.pos).set4 q.size).set5 q.path).set6 q.dst).set7 q.data
      clear hkn hen hq hT hU ff HT2 HR2' HUP
      have U8 := (((((((((Up.refl w.heap.size wr).set 0 (.int .u8 q.kind)).set 1 (.int .u8 q.flags)).set 2 (.int .u64 q.fd)).set 3 (.int .u64 q.pos)).set 4 (.int .u64 q.size)).set 5 (.string q.path)).set 6 (.string q.dst)).set 7 (.string q.data))
      cases kn with
      | false =>
          go_wp2_with fail
          refine wp_region_noPanic ?_
          refine wp_region_held_drew (S := (fun w' => RqAt w' w.heap.size q)) (by kernel_rfl) ?_ (fun hHeld => ?_)
          · exact HR.out.nw Nw.refl.drew
          refine takeD (i := 0) (v := ?_) 31 rfl rfl ?_ ?_ ?_ (fun _ _ _ h => h) ?_ (by assumption) ?_
          rotate_left
          · kernel_rfl
          · kernel_rfl
          · kernel_rfl
          · refine Or.inl (And.intro ?_ ?_)
            · rfl
            · intro w hSw
              obtain ⟨c0, c1, c2, c3, c4, c5, c6, c7, ff⟩ := hSw
              first | (go_simp; done) | (go_simp; with_reducible rfl)
          simp only [List.setIfInBounds_toArray, List.set_cons_zero, List.set_cons_succ]
          refine takeD (i := 1) (v := ?_) 32 rfl rfl ?_ ?_ ?_ (fun _ _ _ h => h) ?_ (by assumption) ?_
          rotate_left
          · kernel_rfl
          · kernel_rfl
          · kernel_rfl
          · refine Or.inl (And.intro ?_ ?_)
            · rfl
            · intro w hSw
              obtain ⟨c0, c1, c2, c3, c4, c5, c6, c7, ff⟩ := hSw
              first | (go_simp; done) | (go_simp; with_reducible rfl)
          simp only [List.setIfInBounds_toArray, List.set_cons_zero, List.set_cons_succ]
          refine takeD (i := 2) (v := ?_) 33 rfl rfl ?_ ?_ ?_ (fun _ _ _ h => h) ?_ (by assumption) ?_
          rotate_left
          · kernel_rfl
          · kernel_rfl
          · kernel_rfl
          · refine Or.inl (And.intro ?_ ?_)
            · rfl
            · intro w hSw
              obtain ⟨c0, c1, c2, c3, c4, c5, c6, c7, ff⟩ := hSw
              first | (go_simp; done) | (go_simp; with_reducible rfl)
          simp only [List.setIfInBounds_toArray, List.set_cons_zero, List.set_cons_succ]
          refine takeD (i := 3) (v := undef) 34 rfl rfl ?_ ?_ ?_ (fun _ _ _ h => h) (Or.inr (And.intro ?_ rfl)) (by assumption) ?_
          · kernel_rfl
          · kernel_rfl
          · kernel_rfl
          · rfl
          simp only [List.setIfInBounds_toArray, List.set_cons_zero, List.set_cons_succ]
          refine wpAnyH_ready (rs := [4]) (by kernel_rfl) (by simp) ?_
          refine AllReadyH.cons rfl (fun K hK => ?_) AllReadyH.nil
          go_simp
          refine hK.out _ _ ?_ (fun hHeld2 => ?_)
          · exact HR.out.nw Nw.refl.drew
          have hHeld := hHeld2
          clear hHeld2 hK K
          refine takeD (i := 5) (v := ?_) 36 rfl rfl ?_ ?_ ?_ (fun _ _ _ h => h) ?_ (by assumption) ?_
          rotate_left
          · kernel_rfl
          · kernel_rfl
          · kernel_rfl
          · refine Or.inl (And.intro ?_ ?_)
            · rfl
            · intro w hSw
              obtain ⟨c0, c1, c2, c3, c4, c5, c6, c7, ff⟩ := hSw
              first | (go_simp; done) | (go_simp; with_reducible rfl)
          simp only [List.setIfInBounds_toArray, List.set_cons_zero, List.set_cons_succ]
          refine takeD (i := 6) (v := ?_) 37 rfl rfl ?_ ?_ ?_ (fun _ _ _ h => h) ?_ (by assumption) ?_
          rotate_left
          · kernel_rfl
          · kernel_rfl
          · kernel_rfl
          · refine Or.inl (And.intro ?_ ?_)
            · rfl
            · intro w hSw
              obtain ⟨c0, c1, c2, c3, c4, c5, c6, c7, ff⟩ := hSw
              first | (go_simp; done) | (go_simp; with_reducible rfl)
          simp only [List.setIfInBounds_toArray, List.set_cons_zero, List.set_cons_succ]
          refine takeD (i := 7) (v := undef) 38 rfl rfl ?_ ?_ ?_ (fun _ _ _ h => h) (Or.inr (And.intro ?_ rfl)) (by assumption) ?_
          · kernel_rfl
          · kernel_rfl
          · kernel_rfl
          · rfl
          simp only [List.setIfInBounds_toArray, List.set_cons_zero, List.set_cons_succ]
          refine takeD (i := 8) (v := undef) 39 rfl rfl ?_ ?_ ?_ (fun _ _ _ h => h) (Or.inr (And.intro ?_ rfl)) (by assumption) ?_
          · kernel_rfl
          · kernel_rfl
          · kernel_rfl
          · rfl
          simp only [List.setIfInBounds_toArray, List.set_cons_zero, List.set_cons_succ]
          refine takeD (i := 9) (v := undef) 40 rfl rfl ?_ ?_ ?_ (fun _ _ _ h => h) (Or.inr (And.intro ?_ rfl)) (by assumption) ?_
          · kernel_rfl
          · kernel_rfl
          · kernel_rfl
          · rfl
          simp only [List.setIfInBounds_toArray, List.set_cons_zero, List.set_cons_succ]
          refine takeD (i := 10) (v := ?_) 41 rfl rfl ?_ ?_ ?_ (fun _ _ _ h => h) ?_ (by assumption) ?_
          rotate_left
          · kernel_rfl
          · kernel_rfl
          · kernel_rfl
          · refine Or.inl (And.intro ?_ ?_)
            · rfl
            · intro w hSw
              obtain ⟨c0, c1, c2, c3, c4, c5, c6, c7, ff⟩ := hSw
              first | (go_simp; done) | (go_simp; with_reducible rfl)
          simp only [List.setIfInBounds_toArray, List.set_cons_zero, List.set_cons_succ]
          refine wpAnyH_ready (rs := [11]) (by kernel_rfl) (by simp) ?_
          refine AllReadyH.cons rfl (fun K hK => ?_) AllReadyH.nil
          go_simp
          refine hK.out _ _ ?_ (fun hHeld2 => ?_)
          · exact R8.nw Nw.refl.drew
          have hHeld := hHeld2
          clear hHeld2 hK K
          refine takeD (i := 12) (v := ?_) 3 rfl rfl ?_ ?_ ?_ (fun _ _ _ h => h) ?_ (by assumption) ?_
          rotate_left
          · kernel_rfl
          · kernel_rfl
          · kernel_rfl
          · refine Or.inl (And.intro ?_ ?_)
            · rfl
            · intro w hSw
              obtain ⟨c0, c1, c2, c3, c4, c5, c6, c7, ff⟩ := hSw
              first | (go_simp; done) | (go_simp; with_reducible rfl)
          simp only [List.setIfInBounds_toArray, List.set_cons_zero, List.set_cons_succ]
          refine wpAnyH_done (by kernel_rfl) ?_ _
          refine NoPanic.normal ?_
          go_wp2_with fail
          refine bodyPost_ret (results_rq rfl _ _ w.heap.size q rfl (R8.nw Nw.refl.drew)) rfl ⟨?_, ⟨Up.below HBL.out (U8.nw Nw.refl.drew) (Nat.le_of_lt HR.out.lt) (Nat.le_refl _)⟩⟩
          rw [HRB.out, hq'.out]
          rfl
      | true =>
        cases en with
        | false =>
          go_wp2_with fail
          refine wp_region_noPanic ?_
          refine wp_region_held_drew (S := (fun w' => RqAt w' w.heap.size q)) (by kernel_rfl) ?_ (fun hHeld => ?_)
          · exact HR.out.nw Nw.refl.drew
          refine takeD (i := 0) (v := ?_) 31 rfl rfl ?_ ?_ ?_ (fun _ _ _ h => h) ?_ (by assumption) ?_
          rotate_left
          · kernel_rfl
          · kernel_rfl
          · kernel_rfl
          · refine Or.inl (And.intro ?_ ?_)
            · rfl
            · intro w hSw
              obtain ⟨c0, c1, c2, c3, c4, c5, c6, c7, ff⟩ := hSw
              first | (go_simp; done) | (go_simp; with_reducible rfl)
          simp only [List.setIfInBounds_toArray, List.set_cons_zero, List.set_cons_succ]
          refine takeD (i := 1) (v := ?_) 32 rfl rfl ?_ ?_ ?_ (fun _ _ _ h => h) ?_ (by assumption) ?_
          rotate_left
          · kernel_rfl
          · kernel_rfl
          · kernel_rfl
          · refine Or.inl (And.intro ?_ ?_)
            · rfl
            · intro w hSw
              obtain ⟨c0, c1, c2, c3, c4, c5, c6, c7, ff⟩ := hSw
              first | (go_simp; done) | (go_simp; with_reducible rfl)
          simp only [List.setIfInBounds_toArray, List.set_cons_zero, List.set_cons_succ]
          refine takeD (i := 2) (v := ?_) 33 rfl rfl ?_ ?_ ?_ (fun _ _ _ h => h) ?_ (by assumption) ?_
          rotate_left
          · kernel_rfl
          · kernel_rfl
          · kernel_rfl
          · refine Or.inl (And.intro ?_ ?_)
            · rfl
            · intro w hSw
              obtain ⟨c0, c1, c2, c3, c4, c5, c6, c7, ff⟩ := hSw
              first | (go_simp; done) | (go_simp; with_reducible rfl)
          simp only [List.setIfInBounds_toArray, List.set_cons_zero, List.set_cons_succ]
          refine takeD (i := 3) (v := ?_) 34 rfl rfl ?_ ?_ ?_ (fun _ _ _ h => h) ?_ (by assumption) ?_
          rotate_left
          · kernel_rfl
          · kernel_rfl
          · kernel_rfl
          · refine Or.inl (And.intro ?_ ?_)
            · rfl
            · intro w hSw
              obtain ⟨c0, c1, c2, c3, c4, c5, c6, c7, ff⟩ := hSw
              first | (go_simp; done) | (go_simp; with_reducible rfl)
          simp only [List.setIfInBounds_toArray, List.set_cons_zero, List.set_cons_succ]
          refine wpAnyH_ready (rs := [4]) (by kernel_rfl) (by simp) ?_
          refine AllReadyH.cons rfl (fun K hK => ?_) AllReadyH.nil
          go_simp
          go_wp2_with (go_at_call 33; refine HE.out.mono ?_; rintro e w5 ⟨rfl, rfl⟩)
          refine hK.out _ _ ?_ (fun hHeld2 => ?_)
          · exact HR.out.nw Nw.refl.drew
          have hHeld := hHeld2
          clear hHeld2 hK K
          refine takeD (i := 5) (v := ?_) 36 rfl rfl ?_ ?_ ?_ (fun _ _ _ h => h) ?_ (by assumption) ?_
          rotate_left
          · kernel_rfl
          · kernel_rfl
          · kernel_rfl
          · refine Or.inl (And.intro ?_ ?_)
            · rfl
            · intro w hSw
              obtain ⟨c0, c1, c2, c3, c4, c5, c6, c7, ff⟩ := hSw
              first | (go_simp; done) | (go_simp; with_reducible rfl)
          simp only [List.setIfInBounds_toArray, List.set_cons_zero, List.set_cons_succ]
          refine takeD (i := 6) (v := ?_) 37 rfl rfl ?_ ?_ ?_ (fun _ _ _ h => h) ?_ (by assumption) ?_
          rotate_left
          · kernel_rfl
          · kernel_rfl
          · kernel_rfl
          · refine Or.inl (And.intro ?_ ?_)
            · rfl
            · intro w hSw
              obtain ⟨c0, c1, c2, c3, c4, c5, c6, c7, ff⟩ := hSw
              first | (go_simp; done) | (go_simp; with_reducible rfl)
          simp only [List.setIfInBounds_toArray, List.set_cons_zero, List.set_cons_succ]
          refine takeD (i := 7) (v := undef) 38 rfl rfl ?_ ?_ ?_ (fun _ _ _ h => h) (Or.inr (And.intro ?_ rfl)) (by assumption) ?_
          · kernel_rfl
          · kernel_rfl
          · kernel_rfl
          · rfl
          simp only [List.setIfInBounds_toArray, List.set_cons_zero, List.set_cons_succ]
          refine takeD (i := 8) (v := undef) 39 rfl rfl ?_ ?_ ?_ (fun _ _ _ h => h) (Or.inr (And.intro ?_ rfl)) (by assumption) ?_
          · kernel_rfl
          · kernel_rfl
          · kernel_rfl
          · rfl
          simp only [List.setIfInBounds_toArray, List.set_cons_zero, List.set_cons_succ]
          refine takeD (i := 9) (v := undef) 40 rfl rfl ?_ ?_ ?_ (fun _ _ _ h => h) (Or.inr (And.intro ?_ rfl)) (by assumption) ?_
          · kernel_rfl
          · kernel_rfl
          · kernel_rfl
          · rfl
          simp only [List.setIfInBounds_toArray, List.set_cons_zero, List.set_cons_succ]
          refine takeD (i := 10) (v := ?_) 41 rfl rfl ?_ ?_ ?_ (fun _ _ _ h => h) ?_ (by assumption) ?_
          rotate_left
          · kernel_rfl
          · kernel_rfl
          · kernel_rfl
          · refine Or.inl (And.intro ?_ ?_)
            · rfl
            · intro w hSw
              obtain ⟨c0, c1, c2, c3, c4, c5, c6, c7, ff⟩ := hSw
              first | (go_simp; done) | (go_simp; with_reducible rfl)
          simp only [List.setIfInBounds_toArray, List.set_cons_zero, List.set_cons_succ]
          refine wpAnyH_ready (rs := [11]) (by kernel_rfl) (by simp) ?_
          refine AllReadyH.cons rfl (fun K hK => ?_) AllReadyH.nil
          go_simp
          refine hK.out _ _ ?_ (fun hHeld2 => ?_)
          · exact R8.nw Nw.refl.drew
          have hHeld := hHeld2
          clear hHeld2 hK K
          refine takeD (i := 12) (v := ?_) 3 rfl rfl ?_ ?_ ?_ (fun _ _ _ h => h) ?_ (by assumption) ?_
          rotate_left
          · kernel_rfl
          · kernel_rfl
          · kernel_rfl
          · refine Or.inl (And.intro ?_ ?_)
            · rfl
            · intro w hSw
              obtain ⟨c0, c1, c2, c3, c4, c5, c6, c7, ff⟩ := hSw
              first | (go_simp; done) | (go_simp; with_reducible rfl)
          simp only [List.setIfInBounds_toArray, List.set_cons_zero, List.set_cons_succ]
          refine wpAnyH_done (by kernel_rfl) ?_ _
          refine NoPanic.normal ?_
          go_wp2_with fail
          refine bodyPost_ret (results_rq rfl _ _ w.heap.size q rfl (R8.nw Nw.refl.drew)) rfl ⟨?_, ⟨Up.below HBL.out (U8.nw Nw.refl.drew) (Nat.le_of_lt HR.out.lt) (Nat.le_refl _)⟩⟩
          rw [HRB.out, hq'.out]
          rfl
        | true =>
          go_wp2_with fail
          refine wp_region_noPanic ?_
          refine wp_region_held_drew (S := (fun w' => RqAt w' w.heap.size q)) (by kernel_rfl) ?_ (fun hHeld => ?_)
          · exact HR.out.nw Nw.refl.drew
          refine takeD (i := 0) (v := ?_) 31 rfl rfl ?_ ?_ ?_ (fun _ _ _ h => h) ?_ (by assumption) ?_
          rotate_left
          · kernel_rfl
          · kernel_rfl
          · kernel_rfl
          · refine Or.inl (And.intro ?_ ?_)
            · rfl
            · intro w hSw
              obtain ⟨c0, c1, c2, c3, c4, c5, c6, c7, ff⟩ := hSw
              first | (go_simp; done) | (go_simp; with_reducible rfl)
          simp only [List.setIfInBounds_toArray, List.set_cons_zero, List.set_cons_succ]
          refine takeD (i := 1) (v := ?_) 32 rfl rfl ?_ ?_ ?_ (fun _ _ _ h => h) ?_ (by assumption) ?_
          rotate_left
          · kernel_rfl
          · kernel_rfl
          · kernel_rfl
          · refine Or.inl (And.intro ?_ ?_)
            · rfl
            · intro w hSw
              obtain ⟨c0, c1, c2, c3, c4, c5, c6, c7, ff⟩ := hSw
              first | (go_simp; done) | (go_simp; with_reducible rfl)
          simp only [List.setIfInBounds_toArray, List.set_cons_zero, List.set_cons_succ]
          refine takeD (i := 2) (v := ?_) 33 rfl rfl ?_ ?_ ?_ (fun _ _ _ h => h) ?_ (by assumption) ?_
          rotate_left
          · kernel_rfl
          · kernel_rfl
          · kernel_rfl
          · refine Or.inl (And.intro ?_ ?_)
            · rfl
            · intro w hSw
              obtain ⟨c0, c1, c2, c3, c4, c5, c6, c7, ff⟩ := hSw
              first | (go_simp; done) | (go_simp; with_reducible rfl)
          simp only [List.setIfInBounds_toArray, List.set_cons_zero, List.set_cons_succ]
          refine takeD (i := 3) (v := ?_) 34 rfl rfl ?_ ?_ ?_ (fun _ _ _ h => h) ?_ (by assumption) ?_
          rotate_left
          · kernel_rfl
          · kernel_rfl
          · kernel_rfl
          · refine Or.inl (And.intro ?_ ?_)
            · rfl
            · intro w hSw
              obtain ⟨c0, c1, c2, c3, c4, c5, c6, c7, ff⟩ := hSw
              first | (go_simp; done) | (go_simp; with_reducible rfl)
          simp only [List.setIfInBounds_toArray, List.set_cons_zero, List.set_cons_succ]
          refine wpAnyH_ready (rs := [4]) (by kernel_rfl) (by simp) ?_
          refine AllReadyH.cons rfl (fun K hK => ?_) AllReadyH.nil
          go_simp
          go_wp2_with (go_at_call 33; refine HE.out.mono ?_; rintro e w5 ⟨rfl, rfl⟩)
          refine hK.out _ _ ?_ (fun hHeld2 => ?_)
          · exact HR.out.nw Nw.refl.drew
          have hHeld := hHeld2
          clear hHeld2 hK K
          refine takeD (i := 5) (v := ?_) 36 rfl rfl ?_ ?_ ?_ (fun _ _ _ h => h) ?_ (by assumption) ?_
          rotate_left
          · kernel_rfl
          · kernel_rfl
          · kernel_rfl
          · refine Or.inl (And.intro ?_ ?_)
            · rfl
            · intro w hSw
              obtain ⟨c0, c1, c2, c3, c4, c5, c6, c7, ff⟩ := hSw
              first | (go_simp; done) | (go_simp; with_reducible rfl)
          simp only [List.setIfInBounds_toArray, List.set_cons_zero, List.set_cons_succ]
          refine takeD (i := 6) (v := ?_) 37 rfl rfl ?_ ?_ ?_ (fun _ _ _ h => h) ?_ (by assumption) ?_
          rotate_left
          · kernel_rfl
          · kernel_rfl
          · kernel_rfl
          · refine Or.inl (And.intro ?_ ?_)
            · rfl
            · intro w hSw
              obtain ⟨c0, c1, c2, c3, c4, c5, c6, c7, ff⟩ := hSw
              first | (go_simp; done) | (go_simp; with_reducible rfl)
          simp only [List.setIfInBounds_toArray, List.set_cons_zero, List.set_cons_succ]
          refine takeD (i := 7) (v := ?_) 38 rfl rfl ?_ ?_ ?_ (fun _ _ _ h => h) ?_ (by assumption) ?_
          rotate_left
          · kernel_rfl
          · kernel_rfl
          · kernel_rfl
          · refine Or.inl (And.intro ?_ ?_)
            · rfl
            · intro w hSw
              obtain ⟨c0, c1, c2, c3, c4, c5, c6, c7, ff⟩ := hSw
              first | (go_simp; done) | (go_simp; with_reducible rfl)
          simp only [List.setIfInBounds_toArray, List.set_cons_zero, List.set_cons_succ]
          refine takeD (i := 8) (v := ?_) 39 rfl rfl ?_ ?_ ?_ (fun _ _ _ h => h) ?_ (by assumption) ?_
          rotate_left
          · kernel_rfl
          · kernel_rfl
          · kernel_rfl
          · refine Or.inl (And.intro ?_ ?_)
            · rfl
            · intro w hSw
              obtain ⟨c0, c1, c2, c3, c4, c5, c6, c7, ff⟩ := hSw
              first | (go_simp; done) | (go_simp; with_reducible rfl)
          simp only [List.setIfInBounds_toArray, List.set_cons_zero, List.set_cons_succ]
          refine takeD (i := 9) (v := ?_) 40 rfl rfl ?_ ?_ ?_ (fun _ _ _ h => h) ?_ (by assumption) ?_
          rotate_left
          · kernel_rfl
          · kernel_rfl
          · kernel_rfl
          · refine Or.inl (And.intro ?_ ?_)
            · rfl
            · intro w hSw
              obtain ⟨c0, c1, c2, c3, c4, c5, c6, c7, ff⟩ := hSw
              first | (go_simp; done) | (go_simp; with_reducible rfl)
          simp only [List.setIfInBounds_toArray, List.set_cons_zero, List.set_cons_succ]
          refine takeD (i := 10) (v := ?_) 41 rfl rfl ?_ ?_ ?_ (fun _ _ _ h => h) ?_ (by assumption) ?_
          rotate_left
          · kernel_rfl
          · kernel_rfl
          · kernel_rfl
          · refine Or.inl (And.intro ?_ ?_)
            · rfl
            · intro w hSw
              obtain ⟨c0, c1, c2, c3, c4, c5, c6, c7, ff⟩ := hSw
              first | (go_simp; done) | (go_simp; with_reducible rfl)
          simp only [List.setIfInBounds_toArray, List.set_cons_zero, List.set_cons_succ]
          refine wpAnyH_ready (rs := [11]) (by kernel_rfl) (by simp) ?_
          refine AllReadyH.cons rfl (fun K hK => ?_) AllReadyH.nil
          go_simp
          refine hK.out _ _ ?_ (fun hHeld2 => ?_)
          · exact R8.nw Nw.refl.drew
          have hHeld := hHeld2
          clear hHeld2 hK K
          refine takeD (i := 12) (v := ?_) 3 rfl rfl ?_ ?_ ?_ (fun _ _ _ h => h) ?_ (by assumption) ?_
          rotate_left
          · kernel_rfl
          · kernel_rfl
          · kernel_rfl
          · refine Or.inl (And.intro ?_ ?_)
            · rfl
            · intro w hSw
              obtain ⟨c0, c1, c2, c3, c4, c5, c6, c7, ff⟩ := hSw
              first | (go_simp; done) | (go_simp; with_reducible rfl)
          simp only [List.setIfInBounds_toArray, List.set_cons_zero, List.set_cons_succ]
          refine wpAnyH_done (by kernel_rfl) ?_ _
          refine NoPanic.normal ?_
          go_wp2_with fail
          refine bodyPost_ret (results_rq rfl _ _ w.heap.size q rfl (R8.nw Nw.refl.drew)) rfl ⟨?_, ⟨Up.below HBL.out (U8.nw Nw.refl.drew) (Nat.le_of_lt HR.out.lt) (Nat.le_refl _)⟩⟩
          rw [HRB.out, hq'.out]
          rfl

end Go.Proofs.Ytphcdndohdnolaa
