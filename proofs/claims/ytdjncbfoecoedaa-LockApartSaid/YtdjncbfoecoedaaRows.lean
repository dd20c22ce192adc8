/-
  No cell of these rows narrows 'for every input' (looked for: loops, veiled, ifaces, maps, wideKeys, modest, calm, conditions, laid).
  DERIVED. THE GIVEN ROWS OF THIS SEAT. 3 by the template 'for every input the law returns true; each argument reads behind the call as it read before'; 0 by the template 'total and deterministic' (their statements: YtdjncbfoecoedaaTotals.lean).
  GIVEN WITH THE SEED: the statements are not yours to turn. If you find one false, say at which input.
  Laid BY PROGRAM, IN A SANDBOX (cutbox-rows.mjs): the forced cells as the released guide's own fill.sh prints them over the translation 4a9201e809ef6b53… (all of the seat's roots in one cut). By AI agents, Wed Nov 11 2026. No macro, syntax, notation, axiom, sorry.
-/
import Derived.Test.YtdjncbfoecoedaaChecked
import GoSem.Claim
import GoSem.ClaimJoined
import GoSem.ClaimMapViews
import Derived.JoinedTies
import Derived.KernelRfl
namespace Go.Proofs.Ytdjncbfoecoedaa
/- THE CELL 'sum', in the pinned program and in every row, IS THE sha256 OF THE DUMP (.gsa) THAT YtdjncbfoecoedaaProg.lean LOADS. Nothing in Lean hashes anything: it is a label: what it is worth is what the hold of that sum in a sandbox is worth. -/
noncomputable def Try.pinned : Pinned := { name := "ytdjncbfoecoedaa", sum := "4a9201e809ef6b53d21fea42a6ae5e782abb4bd81eab8b4c4b1710f77c710a03", checked := Try.checked }
namespace Rows
def none {H : Type} : Left H := { results := [], args := [] }

/-- 'grommetlaw22.LockGoes': WHATEVER THE INPUT: true; the input reads as it did. -/
def lockGoesSpec : ChangeSpec := { name := "lockGoes", fn := fun _ => fun
  | [d1, d2] => { results := [.lit (.bool true)], args := [d1, d2] }
  | _ => none }
def lockGoesRow : OpenClaim := { program := "ytdjncbfoecoedaa", sum := "4a9201e809ef6b53d21fea42a6ae5e782abb4bd81eab8b4c4b1710f77c710a03", func := "grommet/grommetlaw22.LockGoes", spec := "lockGoes", unfollowed := true, recurses := true, apart := false }
def LockGoesSaid : Prop := lockGoesRow.holds Try.pinned (OpenSpec.ofChange lockGoesSpec)

/-- ITS FALSE NEIGHBOUR: 'it returns false'. Refute it at one input. -/
def lockGoesWrong : ChangeSpec := { name := "lockGoes", fn := fun _ => fun
  | [d1, d2] => { results := [.lit (.bool false)], args := [d1, d2] }
  | _ => none }
def LockGoesWrongFalsely : Prop := lockGoesRow.holds Try.pinned (OpenSpec.ofChange lockGoesWrong)

/-- 'grommetlaw22.LockQueue': WHATEVER THE INPUT: true; the input reads as it did. -/
def lockQueueSpec : ChangeSpec := { name := "lockQueue", fn := fun _ => fun
  | [d1, d2] => { results := [.lit (.bool true)], args := [d1, d2] }
  | _ => none }
def lockQueueRow : OpenClaim := { program := "ytdjncbfoecoedaa", sum := "4a9201e809ef6b53d21fea42a6ae5e782abb4bd81eab8b4c4b1710f77c710a03", func := "grommet/grommetlaw22.LockQueue", spec := "lockQueue", unfollowed := true, recurses := true, apart := false }
def LockQueueSaid : Prop := lockQueueRow.holds Try.pinned (OpenSpec.ofChange lockQueueSpec)

/-- ITS FALSE NEIGHBOUR: 'it returns false'. Refute it at one input. -/
def lockQueueWrong : ChangeSpec := { name := "lockQueue", fn := fun _ => fun
  | [d1, d2] => { results := [.lit (.bool false)], args := [d1, d2] }
  | _ => none }
def LockQueueWrongFalsely : Prop := lockQueueRow.holds Try.pinned (OpenSpec.ofChange lockQueueWrong)

/-- 'grommetlaw22.LockApart': WHATEVER THE INPUT: true; the input reads as it did. -/
def lockApartSpec : ChangeSpec := { name := "lockApart", fn := fun _ => fun
  | [d1, d2] => { results := [.lit (.bool true)], args := [d1, d2] }
  | _ => none }
def lockApartRow : OpenClaim := { program := "ytdjncbfoecoedaa", sum := "4a9201e809ef6b53d21fea42a6ae5e782abb4bd81eab8b4c4b1710f77c710a03", func := "grommet/grommetlaw22.LockApart", spec := "lockApart", unfollowed := true, recurses := true, apart := false }
def LockApartSaid : Prop := lockApartRow.holds Try.pinned (OpenSpec.ofChange lockApartSpec)

/-- ITS FALSE NEIGHBOUR: 'it returns false'. Refute it at one input. -/
def lockApartWrong : ChangeSpec := { name := "lockApart", fn := fun _ => fun
  | [d1, d2] => { results := [.lit (.bool false)], args := [d1, d2] }
  | _ => none }
def LockApartWrongFalsely : Prop := lockApartRow.holds Try.pinned (OpenSpec.ofChange lockApartWrong)

/- THE SECOND FORM. 'bulk': how many values and letters a reading holds, each counted each time it is reached (what is shared counts as often as it is met; a slice's spare places count too). A statement '..UptoSaid' is the law's where the arguments, and the package variables that the reading takes, are together of bulk at most 1048576: NARROWER than '..Said'. Prove '..Said' where nothing that the law and all that it calls make is longer than what came in: it says more and counts as full. Else prove '..UptoSaid'. A law counts once. -/
mutual
def uptoBulk {H : Type} : DataW H → Nat
  | .lit (.string bytes) => bytes.length + 1
  | .lit _ => 1
  | .nil => 1
  | .ptr d => uptoBulk d + 1
  | .slice elems spare => uptoBulkAll elems + uptoBulkAll spare + 1
  | .agg parts => uptoBulkAll parts + 1
  | .iface _ d => uptoBulk d + 1
  | .map entries => uptoBulkEntries entries + 1
  | .held _ => 1
def uptoBulkAll {H : Type} : List (DataW H) → Nat
  | [] => 0
  | d :: r => uptoBulk d + uptoBulkAll r
def uptoBulkEntries {H : Type} : List (Lit × DataW H) → Nat
  | [] => 0
  | x :: r => uptoBulkEntry x + uptoBulkEntries r
def uptoBulkEntry {H : Type} : Lit × DataW H → Nat
  | (.string bytes, d) => bytes.length + uptoBulk d + 1
  | (_, d) => uptoBulk d + 1
 end
def uptoSmall : (H : Type) → List (DataW H) → Bool := fun _ ds => decide (uptoBulkAll ds ≤ 1048576)
def OpenSpec.upto (s : _root_.Go.ChangeSpec) : _root_.Go.OpenSpec := { _root_.Go.OpenSpec.ofChange s with cond := some uptoSmall }

/-- 'grommetlaw22.LockGoes', WHERE WHAT IT READS IS OF BULK AT MOST 1048576: true; the input reads as it did. -/
def lockGoesUptoRow : OpenClaim := { program := "ytdjncbfoecoedaa", sum := "4a9201e809ef6b53d21fea42a6ae5e782abb4bd81eab8b4c4b1710f77c710a03", func := "grommet/grommetlaw22.LockGoes", spec := "lockGoes", unfollowed := true, recurses := true, apart := false, narrowed := true }
def LockGoesUptoSaid : Prop := lockGoesUptoRow.holds Try.pinned (OpenSpec.upto lockGoesSpec)

/-- 'grommetlaw22.LockQueue', WHERE WHAT IT READS IS OF BULK AT MOST 1048576: true; the input reads as it did. -/
def lockQueueUptoRow : OpenClaim := { program := "ytdjncbfoecoedaa", sum := "4a9201e809ef6b53d21fea42a6ae5e782abb4bd81eab8b4c4b1710f77c710a03", func := "grommet/grommetlaw22.LockQueue", spec := "lockQueue", unfollowed := true, recurses := true, apart := false, narrowed := true }
def LockQueueUptoSaid : Prop := lockQueueUptoRow.holds Try.pinned (OpenSpec.upto lockQueueSpec)

/-- 'grommetlaw22.LockApart', WHERE WHAT IT READS IS OF BULK AT MOST 1048576: true; the input reads as it did. -/
def lockApartUptoRow : OpenClaim := { program := "ytdjncbfoecoedaa", sum := "4a9201e809ef6b53d21fea42a6ae5e782abb4bd81eab8b4c4b1710f77c710a03", func := "grommet/grommetlaw22.LockApart", spec := "lockApart", unfollowed := true, recurses := true, apart := false, narrowed := true }
def LockApartUptoSaid : Prop := lockApartUptoRow.holds Try.pinned (OpenSpec.upto lockApartSpec)

end Rows
end Go.Proofs.Ytdjncbfoecoedaa
