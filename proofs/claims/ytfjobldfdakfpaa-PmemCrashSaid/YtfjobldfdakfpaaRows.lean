/-
  No cell of these rows narrows 'for every input' (looked for: loops, veiled, ifaces, maps, wideKeys, modest, calm, conditions, laid).
  DERIVED. THE GIVEN ROWS OF THIS SEAT. 5 by the template 'for every input the law returns true; each argument reads behind the call as it read before'; 0 by the template 'total and deterministic' (their statements: YtfjobldfdakfpaaTotals.lean).
  GIVEN WITH THE SEED: the statements are not yours to turn. If you find one false, say at which input.
  Laid BY PROGRAM, IN A SANDBOX (cutbox-rows.mjs): the forced cells as the released guide's own fill.sh prints them over the translation 426b0206cc022fcc… (all of the seat's roots in one cut). By AI agents, Wed Nov 11 2026. No macro, syntax, notation, axiom, sorry.
-/
import Derived.Test.YtfjobldfdakfpaaChecked
import GoSem.Claim
import GoSem.ClaimJoined
import GoSem.ClaimMapViews
import Derived.JoinedTies
import Derived.KernelRfl
namespace Go.Proofs.Ytfjobldfdakfpaa
/- THE CELL 'sum', in the pinned program and in every row, IS THE sha256 OF THE DUMP (.gsa) THAT YtfjobldfdakfpaaProg.lean LOADS. Nothing in Lean hashes anything: it is a label: what it is worth is what the hold of that sum in a sandbox is worth. -/
noncomputable def Try.pinned : Pinned := { name := "ytfjobldfdakfpaa", sum := "426b0206cc022fcc6f5662be48e109e44a2548ef6aa9dff4e8f51284eb2ce626", checked := Try.checked }
namespace Rows
def none {H : Type} : Left H := { results := [], args := [] }

/-- 'grommetlaw03.PmemFenced': WHATEVER THE INPUT: true; the input reads as it did. -/
def pmemFencedSpec : ChangeSpec := { name := "pmemFenced", fn := fun _ => fun
  | [d] => { results := [.lit (.bool true)], args := [d] }
  | _ => none }
def pmemFencedRow : OpenClaim := { program := "ytfjobldfdakfpaa", sum := "426b0206cc022fcc6f5662be48e109e44a2548ef6aa9dff4e8f51284eb2ce626", func := "grommet/grommetlaw03.PmemFenced", spec := "pmemFenced", unfollowed := true, recurses := true, apart := false }
def PmemFencedSaid : Prop := pmemFencedRow.holds Try.pinned (OpenSpec.ofChange pmemFencedSpec)

/-- ITS FALSE NEIGHBOUR: 'it returns false'. Refute it at one input. -/
def pmemFencedWrong : ChangeSpec := { name := "pmemFenced", fn := fun _ => fun
  | [d] => { results := [.lit (.bool false)], args := [d] }
  | _ => none }
def PmemFencedWrongFalsely : Prop := pmemFencedRow.holds Try.pinned (OpenSpec.ofChange pmemFencedWrong)

/-- 'grommetlaw03.PmemPicks': WHATEVER THE INPUT: true; the input reads as it did. -/
def pmemPicksSpec : ChangeSpec := { name := "pmemPicks", fn := fun _ => fun
  | [d1, d2] => { results := [.lit (.bool true)], args := [d1, d2] }
  | _ => none }
def pmemPicksRow : OpenClaim := { program := "ytfjobldfdakfpaa", sum := "426b0206cc022fcc6f5662be48e109e44a2548ef6aa9dff4e8f51284eb2ce626", func := "grommet/grommetlaw03.PmemPicks", spec := "pmemPicks", unfollowed := true, recurses := true, apart := false }
def PmemPicksSaid : Prop := pmemPicksRow.holds Try.pinned (OpenSpec.ofChange pmemPicksSpec)

/-- ITS FALSE NEIGHBOUR: 'it returns false'. Refute it at one input. -/
def pmemPicksWrong : ChangeSpec := { name := "pmemPicks", fn := fun _ => fun
  | [d1, d2] => { results := [.lit (.bool false)], args := [d1, d2] }
  | _ => none }
def PmemPicksWrongFalsely : Prop := pmemPicksRow.holds Try.pinned (OpenSpec.ofChange pmemPicksWrong)

/-- 'grommetlaw03.PmemCrash': WHATEVER THE INPUT: true; the input reads as it did. -/
def pmemCrashSpec : ChangeSpec := { name := "pmemCrash", fn := fun _ => fun
  | [d1, d2, d3, d4] => { results := [.lit (.bool true)], args := [d1, d2, d3, d4] }
  | _ => none }
def pmemCrashRow : OpenClaim := { program := "ytfjobldfdakfpaa", sum := "426b0206cc022fcc6f5662be48e109e44a2548ef6aa9dff4e8f51284eb2ce626", func := "grommet/grommetlaw03.PmemCrash", spec := "pmemCrash", unfollowed := true, recurses := true, apart := false }
def PmemCrashSaid : Prop := pmemCrashRow.holds Try.pinned (OpenSpec.ofChange pmemCrashSpec)

/-- ITS FALSE NEIGHBOUR: 'it returns false'. Refute it at one input. -/
def pmemCrashWrong : ChangeSpec := { name := "pmemCrash", fn := fun _ => fun
  | [d1, d2, d3, d4] => { results := [.lit (.bool false)], args := [d1, d2, d3, d4] }
  | _ => none }
def PmemCrashWrongFalsely : Prop := pmemCrashRow.holds Try.pinned (OpenSpec.ofChange pmemCrashWrong)

/-- 'grommetlaw03.PmemEvicts': WHATEVER THE INPUT: true; the input reads as it did. -/
def pmemEvictsSpec : ChangeSpec := { name := "pmemEvicts", fn := fun _ => fun
  | [d1, d2] => { results := [.lit (.bool true)], args := [d1, d2] }
  | _ => none }
def pmemEvictsRow : OpenClaim := { program := "ytfjobldfdakfpaa", sum := "426b0206cc022fcc6f5662be48e109e44a2548ef6aa9dff4e8f51284eb2ce626", func := "grommet/grommetlaw03.PmemEvicts", spec := "pmemEvicts", unfollowed := true, recurses := true, apart := false }
def PmemEvictsSaid : Prop := pmemEvictsRow.holds Try.pinned (OpenSpec.ofChange pmemEvictsSpec)

/-- ITS FALSE NEIGHBOUR: 'it returns false'. Refute it at one input. -/
def pmemEvictsWrong : ChangeSpec := { name := "pmemEvicts", fn := fun _ => fun
  | [d1, d2] => { results := [.lit (.bool false)], args := [d1, d2] }
  | _ => none }
def PmemEvictsWrongFalsely : Prop := pmemEvictsRow.holds Try.pinned (OpenSpec.ofChange pmemEvictsWrong)

/-- 'grommetlaw03.PmemNil': WHATEVER THE INPUT: true; the input reads as it did. -/
def pmemNilSpec : ChangeSpec := { name := "pmemNil", fn := fun _ => fun
  | [d1, d2] => { results := [.lit (.bool true)], args := [d1, d2] }
  | _ => none }
def pmemNilRow : OpenClaim := { program := "ytfjobldfdakfpaa", sum := "426b0206cc022fcc6f5662be48e109e44a2548ef6aa9dff4e8f51284eb2ce626", func := "grommet/grommetlaw03.PmemNil", spec := "pmemNil", unfollowed := true, recurses := true, apart := false }
def PmemNilSaid : Prop := pmemNilRow.holds Try.pinned (OpenSpec.ofChange pmemNilSpec)

/-- ITS FALSE NEIGHBOUR: 'it returns false'. Refute it at one input. -/
def pmemNilWrong : ChangeSpec := { name := "pmemNil", fn := fun _ => fun
  | [d1, d2] => { results := [.lit (.bool false)], args := [d1, d2] }
  | _ => none }
def PmemNilWrongFalsely : Prop := pmemNilRow.holds Try.pinned (OpenSpec.ofChange pmemNilWrong)

/- THE SECOND FORM. 'bulk': how many values and letters a reading holds, each counted each time it is reached (what is shared counts as often as it is met; a slice's spare places count too). A statement '..UptoSaid' is the law's where the arguments, and the package variables that the reading takes, are together of bulk at most 1048576: NARROWER than '..Said'. Prove '..Said' where nothing that the law and all that it calls make is longer than what came in: it says more and counts as full. Else prove '..UptoSaid'. A law counts once. -/
mutual
def uptoBulk {H : Type} : DataW H → Nat
  | .lit (.string bytes) => bytes.length + 1
  | .lit _ => 1
  | .nil => 1
  | .ptr d => uptoBulk d + 1
  | .slice elems spare => uptoBulkAll elems + uptoBulkAll spare + 1
  | .agg parts => uptoBulkAll parts + 1
  | .iface _ d => uptoBulk d + 1
  | .map entries => uptoBulkEntries entries + 1
  | .held _ => 1
def uptoBulkAll {H : Type} : List (DataW H) → Nat
  | [] => 0
  | d :: r => uptoBulk d + uptoBulkAll r
def uptoBulkEntries {H : Type} : List (Lit × DataW H) → Nat
  | [] => 0
  | x :: r => uptoBulkEntry x + uptoBulkEntries r
def uptoBulkEntry {H : Type} : Lit × DataW H → Nat
  | (.string bytes, d) => bytes.length + uptoBulk d + 1
  | (_, d) => uptoBulk d + 1
 end
def uptoSmall : (H : Type) → List (DataW H) → Bool := fun _ ds => decide (uptoBulkAll ds ≤ 1048576)
def OpenSpec.upto (s : _root_.Go.ChangeSpec) : _root_.Go.OpenSpec := { _root_.Go.OpenSpec.ofChange s with cond := some uptoSmall }

/-- 'grommetlaw03.PmemFenced', WHERE WHAT IT READS IS OF BULK AT MOST 1048576: true; the input reads as it did. -/
def pmemFencedUptoRow : OpenClaim := { program := "ytfjobldfdakfpaa", sum := "426b0206cc022fcc6f5662be48e109e44a2548ef6aa9dff4e8f51284eb2ce626", func := "grommet/grommetlaw03.PmemFenced", spec := "pmemFenced", unfollowed := true, recurses := true, apart := false, narrowed := true }
def PmemFencedUptoSaid : Prop := pmemFencedUptoRow.holds Try.pinned (OpenSpec.upto pmemFencedSpec)

/-- 'grommetlaw03.PmemPicks', WHERE WHAT IT READS IS OF BULK AT MOST 1048576: true; the input reads as it did. -/
def pmemPicksUptoRow : OpenClaim := { program := "ytfjobldfdakfpaa", sum := "426b0206cc022fcc6f5662be48e109e44a2548ef6aa9dff4e8f51284eb2ce626", func := "grommet/grommetlaw03.PmemPicks", spec := "pmemPicks", unfollowed := true, recurses := true, apart := false, narrowed := true }
def PmemPicksUptoSaid : Prop := pmemPicksUptoRow.holds Try.pinned (OpenSpec.upto pmemPicksSpec)

/-- 'grommetlaw03.PmemCrash', WHERE WHAT IT READS IS OF BULK AT MOST 1048576: true; the input reads as it did. -/
def pmemCrashUptoRow : OpenClaim := { program := "ytfjobldfdakfpaa", sum := "426b0206cc022fcc6f5662be48e109e44a2548ef6aa9dff4e8f51284eb2ce626", func := "grommet/grommetlaw03.PmemCrash", spec := "pmemCrash", unfollowed := true, recurses := true, apart := false, narrowed := true }
def PmemCrashUptoSaid : Prop := pmemCrashUptoRow.holds Try.pinned (OpenSpec.upto pmemCrashSpec)

/-- 'grommetlaw03.PmemEvicts', WHERE WHAT IT READS IS OF BULK AT MOST 1048576: true; the input reads as it did. -/
def pmemEvictsUptoRow : OpenClaim := { program := "ytfjobldfdakfpaa", sum := "426b0206cc022fcc6f5662be48e109e44a2548ef6aa9dff4e8f51284eb2ce626", func := "grommet/grommetlaw03.PmemEvicts", spec := "pmemEvicts", unfollowed := true, recurses := true, apart := false, narrowed := true }
def PmemEvictsUptoSaid : Prop := pmemEvictsUptoRow.holds Try.pinned (OpenSpec.upto pmemEvictsSpec)

/-- 'grommetlaw03.PmemNil', WHERE WHAT IT READS IS OF BULK AT MOST 1048576: true; the input reads as it did. -/
def pmemNilUptoRow : OpenClaim := { program := "ytfjobldfdakfpaa", sum := "426b0206cc022fcc6f5662be48e109e44a2548ef6aa9dff4e8f51284eb2ce626", func := "grommet/grommetlaw03.PmemNil", spec := "pmemNil", unfollowed := true, recurses := true, apart := false, narrowed := true }
def PmemNilUptoSaid : Prop := pmemNilUptoRow.holds Try.pinned (OpenSpec.upto pmemNilSpec)

end Rows
end Go.Proofs.Ytfjobldfdakfpaa
