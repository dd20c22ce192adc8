/-
  No cell of these rows narrows 'for every input' (looked for: loops, veiled, ifaces, maps, wideKeys, modest, calm, conditions, laid).
  DERIVED. THE GIVEN ROWS OF THIS SEAT. 4 by the template 'for every input the law returns true; each argument reads behind the call as it read before'; 0 by the template 'total and deterministic' (their statements: YtkopfnldgnkkoaaTotals.lean).
  GIVEN WITH THE SEED: the statements are not yours to turn. If you find one false, say at which input.
  Laid BY PROGRAM, IN A SANDBOX (cutbox-rows.mjs): the forced cells as the released guide's own fill.sh prints them over the translation 83632d264669f827… (all of the seat's roots in one cut). By AI agents, Wed Nov 11 2026. No macro, syntax, notation, axiom, sorry.
-/
import Derived.Test.YtkopfnldgnkkoaaChecked
import GoSem.Claim
import GoSem.ClaimJoined
import GoSem.ClaimMapViews
import Derived.JoinedTies
import Derived.KernelRfl
namespace Go.Proofs.Ytkopfnldgnkkoaa
/- THE CELL 'sum', in the pinned program and in every row, IS THE sha256 OF THE DUMP (.gsa) THAT YtkopfnldgnkkoaaProg.lean LOADS. Nothing in Lean hashes anything: it is a label: what it is worth is what the hold of that sum in a sandbox is worth. -/
noncomputable def Try.pinned : Pinned := { name := "ytkopfnldgnkkoaa", sum := "83632d264669f827ceaa1086186ec8f75f8fd1c3e8e03f2e89e42a95cc75c2da", checked := Try.checked }
namespace Rows
def none {H : Type} : Left H := { results := [], args := [] }

/-- 'grommetlaw09.CommitCounts': WHATEVER THE INPUT: true; the input reads as it did. -/
def commitCountsSpec : ChangeSpec := { name := "commitCounts", fn := fun _ => fun
  | [d1, d2, d3] => { results := [.lit (.bool true)], args := [d1, d2, d3] }
  | _ => none }
def commitCountsRow : OpenClaim := { program := "ytkopfnldgnkkoaa", sum := "83632d264669f827ceaa1086186ec8f75f8fd1c3e8e03f2e89e42a95cc75c2da", func := "grommet/grommetlaw09.CommitCounts", spec := "commitCounts", unfollowed := true, recurses := true, apart := false }
def CommitCountsSaid : Prop := commitCountsRow.holds Try.pinned (OpenSpec.ofChange commitCountsSpec)

/-- ITS FALSE NEIGHBOUR: 'it returns false'. Refute it at one input. -/
def commitCountsWrong : ChangeSpec := { name := "commitCounts", fn := fun _ => fun
  | [d1, d2, d3] => { results := [.lit (.bool false)], args := [d1, d2, d3] }
  | _ => none }
def CommitCountsWrongFalsely : Prop := commitCountsRow.holds Try.pinned (OpenSpec.ofChange commitCountsWrong)

/-- 'grommetlaw09.CommitOver': WHATEVER THE INPUT: true; the input reads as it did. -/
def commitOverSpec : ChangeSpec := { name := "commitOver", fn := fun _ => fun
  | [d1, d2, d3, d4, d5] => { results := [.lit (.bool true)], args := [d1, d2, d3, d4, d5] }
  | _ => none }
def commitOverRow : OpenClaim := { program := "ytkopfnldgnkkoaa", sum := "83632d264669f827ceaa1086186ec8f75f8fd1c3e8e03f2e89e42a95cc75c2da", func := "grommet/grommetlaw09.CommitOver", spec := "commitOver", unfollowed := true, recurses := true, apart := false }
def CommitOverSaid : Prop := commitOverRow.holds Try.pinned (OpenSpec.ofChange commitOverSpec)

/-- ITS FALSE NEIGHBOUR: 'it returns false'. Refute it at one input. -/
def commitOverWrong : ChangeSpec := { name := "commitOver", fn := fun _ => fun
  | [d1, d2, d3, d4, d5] => { results := [.lit (.bool false)], args := [d1, d2, d3, d4, d5] }
  | _ => none }
def CommitOverWrongFalsely : Prop := commitOverRow.holds Try.pinned (OpenSpec.ofChange commitOverWrong)

/-- 'grommetlaw09.CommitNil': WHATEVER THE INPUT: true; the input reads as it did. -/
def commitNilSpec : ChangeSpec := { name := "commitNil", fn := fun _ => fun
  | [d1, d2, d3] => { results := [.lit (.bool true)], args := [d1, d2, d3] }
  | _ => none }
def commitNilRow : OpenClaim := { program := "ytkopfnldgnkkoaa", sum := "83632d264669f827ceaa1086186ec8f75f8fd1c3e8e03f2e89e42a95cc75c2da", func := "grommet/grommetlaw09.CommitNil", spec := "commitNil", unfollowed := true, recurses := true, apart := false }
def CommitNilSaid : Prop := commitNilRow.holds Try.pinned (OpenSpec.ofChange commitNilSpec)

/-- ITS FALSE NEIGHBOUR: 'it returns false'. Refute it at one input. -/
def commitNilWrong : ChangeSpec := { name := "commitNil", fn := fun _ => fun
  | [d1, d2, d3] => { results := [.lit (.bool false)], args := [d1, d2, d3] }
  | _ => none }
def CommitNilWrongFalsely : Prop := commitNilRow.holds Try.pinned (OpenSpec.ofChange commitNilWrong)

/-- 'grommetlaw09.CommitQuiet': WHATEVER THE INPUT: true; the input reads as it did. -/
def commitQuietSpec : ChangeSpec := { name := "commitQuiet", fn := fun _ => fun
  | [d1, d2, d3] => { results := [.lit (.bool true)], args := [d1, d2, d3] }
  | _ => none }
def commitQuietRow : OpenClaim := { program := "ytkopfnldgnkkoaa", sum := "83632d264669f827ceaa1086186ec8f75f8fd1c3e8e03f2e89e42a95cc75c2da", func := "grommet/grommetlaw09.CommitQuiet", spec := "commitQuiet", unfollowed := true, recurses := true, apart := false }
def CommitQuietSaid : Prop := commitQuietRow.holds Try.pinned (OpenSpec.ofChange commitQuietSpec)

/-- ITS FALSE NEIGHBOUR: 'it returns false'. Refute it at one input. -/
def commitQuietWrong : ChangeSpec := { name := "commitQuiet", fn := fun _ => fun
  | [d1, d2, d3] => { results := [.lit (.bool false)], args := [d1, d2, d3] }
  | _ => none }
def CommitQuietWrongFalsely : Prop := commitQuietRow.holds Try.pinned (OpenSpec.ofChange commitQuietWrong)

/- THE SECOND FORM. 'bulk': how many values and letters a reading holds, each counted each time it is reached (what is shared counts as often as it is met; a slice's spare places count too). A statement '..UptoSaid' is the law's where the arguments, and the package variables that the reading takes, are together of bulk at most 1048576: NARROWER than '..Said'. Prove '..Said' where nothing that the law and all that it calls make is longer than what came in: it says more and counts as full. Else prove '..UptoSaid'. A law counts once. -/
mutual
def uptoBulk {H : Type} : DataW H → Nat
  | .lit (.string bytes) => bytes.length + 1
  | .lit _ => 1
  | .nil => 1
  | .ptr d => uptoBulk d + 1
  | .slice elems spare => uptoBulkAll elems + uptoBulkAll spare + 1
  | .agg parts => uptoBulkAll parts + 1
  | .iface _ d => uptoBulk d + 1
  | .map entries => uptoBulkEntries entries + 1
  | .held _ => 1
def uptoBulkAll {H : Type} : List (DataW H) → Nat
  | [] => 0
  | d :: r => uptoBulk d + uptoBulkAll r
def uptoBulkEntries {H : Type} : List (Lit × DataW H) → Nat
  | [] => 0
  | x :: r => uptoBulkEntry x + uptoBulkEntries r
def uptoBulkEntry {H : Type} : Lit × DataW H → Nat
  | (.string bytes, d) => bytes.length + uptoBulk d + 1
  | (_, d) => uptoBulk d + 1
 end
def uptoSmall : (H : Type) → List (DataW H) → Bool := fun _ ds => decide (uptoBulkAll ds ≤ 1048576)
def OpenSpec.upto (s : _root_.Go.ChangeSpec) : _root_.Go.OpenSpec := { _root_.Go.OpenSpec.ofChange s with cond := some uptoSmall }

/-- 'grommetlaw09.CommitCounts', WHERE WHAT IT READS IS OF BULK AT MOST 1048576: true; the input reads as it did. -/
def commitCountsUptoRow : OpenClaim := { program := "ytkopfnldgnkkoaa", sum := "83632d264669f827ceaa1086186ec8f75f8fd1c3e8e03f2e89e42a95cc75c2da", func := "grommet/grommetlaw09.CommitCounts", spec := "commitCounts", unfollowed := true, recurses := true, apart := false, narrowed := true }
def CommitCountsUptoSaid : Prop := commitCountsUptoRow.holds Try.pinned (OpenSpec.upto commitCountsSpec)

/-- 'grommetlaw09.CommitOver', WHERE WHAT IT READS IS OF BULK AT MOST 1048576: true; the input reads as it did. -/
def commitOverUptoRow : OpenClaim := { program := "ytkopfnldgnkkoaa", sum := "83632d264669f827ceaa1086186ec8f75f8fd1c3e8e03f2e89e42a95cc75c2da", func := "grommet/grommetlaw09.CommitOver", spec := "commitOver", unfollowed := true, recurses := true, apart := false, narrowed := true }
def CommitOverUptoSaid : Prop := commitOverUptoRow.holds Try.pinned (OpenSpec.upto commitOverSpec)

/-- 'grommetlaw09.CommitNil', WHERE WHAT IT READS IS OF BULK AT MOST 1048576: true; the input reads as it did. -/
def commitNilUptoRow : OpenClaim := { program := "ytkopfnldgnkkoaa", sum := "83632d264669f827ceaa1086186ec8f75f8fd1c3e8e03f2e89e42a95cc75c2da", func := "grommet/grommetlaw09.CommitNil", spec := "commitNil", unfollowed := true, recurses := true, apart := false, narrowed := true }
def CommitNilUptoSaid : Prop := commitNilUptoRow.holds Try.pinned (OpenSpec.upto commitNilSpec)

/-- 'grommetlaw09.CommitQuiet', WHERE WHAT IT READS IS OF BULK AT MOST 1048576: true; the input reads as it did. -/
def commitQuietUptoRow : OpenClaim := { program := "ytkopfnldgnkkoaa", sum := "83632d264669f827ceaa1086186ec8f75f8fd1c3e8e03f2e89e42a95cc75c2da", func := "grommet/grommetlaw09.CommitQuiet", spec := "commitQuiet", unfollowed := true, recurses := true, apart := false, narrowed := true }
def CommitQuietUptoSaid : Prop := commitQuietUptoRow.holds Try.pinned (OpenSpec.upto commitQuietSpec)

end Rows
end Go.Proofs.Ytkopfnldgnkkoaa
