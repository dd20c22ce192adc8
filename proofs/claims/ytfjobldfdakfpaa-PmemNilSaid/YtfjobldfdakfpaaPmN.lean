/-
  THE WALK OF PmemNil.
-/
import Derived.Test.YtfjobldfdakfpaaPmI
namespace Go.Proofs.Ytfjobldfdakfpaa
open Go.RowKit Go.Shelf
set_option linter.unusedVariables false

set_option maxRecDepth 100000 in
set_option maxHeartbeats 4000000 in
theorem walk_nil (k v : Int) (w : World) :
    Calls Try.prog 7 #[.int .i64 k, .int .u64 v] w fun e w' => e = .returned (.bool true) ∧ Below w.heap.size w w' := by
  go_enter Try.func7, Try.ntmps7
  have HN0 := Lib.hid (Nw.refl (w := w))
  go_wp2_with fail
  refine (load_nil k _).mono ?_
  rintro e w1 ⟨rfl, rfl⟩
  go_wp2_with fail
  refine (store_nil k v _).mono ?_
  rintro e w1 ⟨rfl, rfl⟩
  go_wp2_with fail
  refine (flush_nil k _).mono ?_
  rintro e w11 ⟨rfl, hN⟩
  have HN1 := Lib.hid (HN0.out.trans hN)
  clear hN
  go_wp2_with fail
  refine (fence_nil _).mono ?_
  rintro e w1 ⟨rfl, rfl⟩
  go_wp2_with fail
  refine (evict_nil k _).mono ?_
  rintro e w12 ⟨rfl, hN⟩
  have HN2 := Lib.hid (HN1.out.trans hN)
  clear hN
  go_wp2_with fail
  refine (crash_nil _).mono ?_
  rintro e w13 ⟨rfl, hN⟩
  have HN3 := Lib.hid (HN2.out.trans hN)
  clear hN
  go_wp2_with fail
  refine (words_nil _).mono ?_
  rintro e w1 ⟨rfl, rfl⟩
  go_wp2_with fail
  refine (loose_nil _).mono ?_
  rintro e w14 ⟨rfl, hN⟩
  have HN4 := Lib.hid (HN3.out.trans hN)
  clear hN
  go_wp2_with fail
  refine (sure_nil _).mono ?_
  rintro e w1 ⟨rfl, rfl⟩
  go_wp2_with fail
  refine (seen_nil _).mono ?_
  rintro e w1 ⟨rfl, rfl⟩
  go_wp2_with fail
  refine (works_any _).mono ?_
  rintro e w15 ⟨rfl, hN⟩
  have HN5 := Lib.hid (HN4.out.trans hN)
  clear hN
  go_wp2_with fail
  go_ret
  exact ⟨rfl, HN5.out.b⟩

end Go.Proofs.Ytfjobldfdakfpaa
