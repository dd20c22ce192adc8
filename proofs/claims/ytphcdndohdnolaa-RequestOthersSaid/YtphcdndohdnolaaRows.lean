/-
  No cell of these rows narrows 'for every input' (looked for: loops, veiled, ifaces, maps, wideKeys, modest, calm, conditions, laid).
  DERIVED. THE GIVEN ROWS OF THIS SEAT. 6 by the template 'for every input the law returns true; each argument reads behind the call as it read before'; 0 by the template 'total and deterministic' (their statements: YtphcdndohdnolaaTotals.lean).
  GIVEN WITH THE SEED: the statements are not yours to turn. If you find one false, say at which input.
  Laid BY PROGRAM, IN A SANDBOX (cutbox-rows.mjs): the forced cells as the released guide's own fill.sh prints them over the translation 5ef557eb0b4b289b… (all of the seat's roots in one cut). By AI agents, Wed Nov 11 2026. No macro, syntax, notation, axiom, sorry.
-/
import Derived.Test.YtphcdndohdnolaaChecked
import GoSem.Claim
import GoSem.ClaimJoined
import GoSem.ClaimMapViews
import Derived.JoinedTies
import Derived.KernelRfl
namespace Go.Proofs.Ytphcdndohdnolaa
/- THE CELL 'sum', in the pinned program and in every row, IS THE sha256 OF THE DUMP (.gsa) THAT YtphcdndohdnolaaProg.lean LOADS. Nothing in Lean hashes anything: it is a label: what it is worth is what the hold of that sum in a sandbox is worth. -/
noncomputable def Try.pinned : Pinned := { name := "ytphcdndohdnolaa", sum := "5ef557eb0b4b289b503122ff60d74beb7ba1fbebd29786c326f3235859852751", checked := Try.checked }
namespace Rows
def none {H : Type} : Left H := { results := [], args := [] }

/-- 'grommetlaw20.RequestPlays': WHATEVER THE INPUT: true; the input reads as it did. -/
def requestPlaysSpec : ChangeSpec := { name := "requestPlays", fn := fun _ => fun
  | [d1, d2] => { results := [.lit (.bool true)], args := [d1, d2] }
  | _ => none }
def requestPlaysRow : OpenClaim := { program := "ytphcdndohdnolaa", sum := "5ef557eb0b4b289b503122ff60d74beb7ba1fbebd29786c326f3235859852751", func := "grommet/grommetlaw20.RequestPlays", spec := "requestPlays", unfollowed := true, recurses := true, apart := false }
def RequestPlaysSaid : Prop := requestPlaysRow.holds Try.pinned (OpenSpec.ofChange requestPlaysSpec)

/-- ITS FALSE NEIGHBOUR: 'it returns false'. Refute it at one input. -/
def requestPlaysWrong : ChangeSpec := { name := "requestPlays", fn := fun _ => fun
  | [d1, d2] => { results := [.lit (.bool false)], args := [d1, d2] }
  | _ => none }
def RequestPlaysWrongFalsely : Prop := requestPlaysRow.holds Try.pinned (OpenSpec.ofChange requestPlaysWrong)

/-- 'grommetlaw20.RequestBack': WHATEVER THE INPUT: true; the input reads as it did. -/
def requestBackSpec : ChangeSpec := { name := "requestBack", fn := fun _ => fun
  | [d1, d2, d3, d4] => { results := [.lit (.bool true)], args := [d1, d2, d3, d4] }
  | _ => none }
def requestBackRow : OpenClaim := { program := "ytphcdndohdnolaa", sum := "5ef557eb0b4b289b503122ff60d74beb7ba1fbebd29786c326f3235859852751", func := "grommet/grommetlaw20.RequestBack", spec := "requestBack", unfollowed := true, recurses := true, apart := false }
def RequestBackSaid : Prop := requestBackRow.holds Try.pinned (OpenSpec.ofChange requestBackSpec)

/-- ITS FALSE NEIGHBOUR: 'it returns false'. Refute it at one input. -/
def requestBackWrong : ChangeSpec := { name := "requestBack", fn := fun _ => fun
  | [d1, d2, d3, d4] => { results := [.lit (.bool false)], args := [d1, d2, d3, d4] }
  | _ => none }
def RequestBackWrongFalsely : Prop := requestBackRow.holds Try.pinned (OpenSpec.ofChange requestBackWrong)

/-- 'grommetlaw20.RequestFields': WHATEVER THE INPUT: true; the input reads as it did. -/
def requestFieldsSpec : ChangeSpec := { name := "requestFields", fn := fun _ => fun
  | [d1, d2] => { results := [.lit (.bool true)], args := [d1, d2] }
  | _ => none }
def requestFieldsRow : OpenClaim := { program := "ytphcdndohdnolaa", sum := "5ef557eb0b4b289b503122ff60d74beb7ba1fbebd29786c326f3235859852751", func := "grommet/grommetlaw20.RequestFields", spec := "requestFields", unfollowed := true, recurses := true, apart := false }
def RequestFieldsSaid : Prop := requestFieldsRow.holds Try.pinned (OpenSpec.ofChange requestFieldsSpec)

/-- ITS FALSE NEIGHBOUR: 'it returns false'. Refute it at one input. -/
def requestFieldsWrong : ChangeSpec := { name := "requestFields", fn := fun _ => fun
  | [d1, d2] => { results := [.lit (.bool false)], args := [d1, d2] }
  | _ => none }
def RequestFieldsWrongFalsely : Prop := requestFieldsRow.holds Try.pinned (OpenSpec.ofChange requestFieldsWrong)

/-- 'grommetlaw20.RequestKinds': WHATEVER THE INPUT: true; the input reads as it did. -/
def requestKindsSpec : ChangeSpec := { name := "requestKinds", fn := fun _ => fun
  | [d] => { results := [.lit (.bool true)], args := [d] }
  | _ => none }
def requestKindsRow : OpenClaim := { program := "ytphcdndohdnolaa", sum := "5ef557eb0b4b289b503122ff60d74beb7ba1fbebd29786c326f3235859852751", func := "grommet/grommetlaw20.RequestKinds", spec := "requestKinds", unfollowed := true, recurses := true, apart := false }
def RequestKindsSaid : Prop := requestKindsRow.holds Try.pinned (OpenSpec.ofChange requestKindsSpec)

/-- ITS FALSE NEIGHBOUR: 'it returns false'. Refute it at one input. -/
def requestKindsWrong : ChangeSpec := { name := "requestKinds", fn := fun _ => fun
  | [d] => { results := [.lit (.bool false)], args := [d] }
  | _ => none }
def RequestKindsWrongFalsely : Prop := requestKindsRow.holds Try.pinned (OpenSpec.ofChange requestKindsWrong)

/-- 'grommetlaw20.RequestLong': WHATEVER THE INPUT: true; the input reads as it did. -/
def requestLongSpec : ChangeSpec := { name := "requestLong", fn := fun _ => fun
  | [d1, d2, d3, d4] => { results := [.lit (.bool true)], args := [d1, d2, d3, d4] }
  | _ => none }
def requestLongRow : OpenClaim := { program := "ytphcdndohdnolaa", sum := "5ef557eb0b4b289b503122ff60d74beb7ba1fbebd29786c326f3235859852751", func := "grommet/grommetlaw20.RequestLong", spec := "requestLong", unfollowed := true, recurses := true, apart := false }
def RequestLongSaid : Prop := requestLongRow.holds Try.pinned (OpenSpec.ofChange requestLongSpec)

/-- ITS FALSE NEIGHBOUR: 'it returns false'. Refute it at one input. -/
def requestLongWrong : ChangeSpec := { name := "requestLong", fn := fun _ => fun
  | [d1, d2, d3, d4] => { results := [.lit (.bool false)], args := [d1, d2, d3, d4] }
  | _ => none }
def RequestLongWrongFalsely : Prop := requestLongRow.holds Try.pinned (OpenSpec.ofChange requestLongWrong)

/-- 'grommetlaw20.RequestOthers': WHATEVER THE INPUT: true; the input reads as it did. -/
def requestOthersSpec : ChangeSpec := { name := "requestOthers", fn := fun _ => fun
  | [d] => { results := [.lit (.bool true)], args := [d] }
  | _ => none }
def requestOthersRow : OpenClaim := { program := "ytphcdndohdnolaa", sum := "5ef557eb0b4b289b503122ff60d74beb7ba1fbebd29786c326f3235859852751", func := "grommet/grommetlaw20.RequestOthers", spec := "requestOthers", unfollowed := true, recurses := true, apart := false }
def RequestOthersSaid : Prop := requestOthersRow.holds Try.pinned (OpenSpec.ofChange requestOthersSpec)

/-- ITS FALSE NEIGHBOUR: 'it returns false'. Refute it at one input. -/
def requestOthersWrong : ChangeSpec := { name := "requestOthers", fn := fun _ => fun
  | [d] => { results := [.lit (.bool false)], args := [d] }
  | _ => none }
def RequestOthersWrongFalsely : Prop := requestOthersRow.holds Try.pinned (OpenSpec.ofChange requestOthersWrong)

/- THE SECOND FORM. 'bulk': how many values and letters a reading holds, each counted each time it is reached (what is shared counts as often as it is met; a slice's spare places count too). A statement '..UptoSaid' is the law's where the arguments, and the package variables that the reading takes, are together of bulk at most 1048576: NARROWER than '..Said'. Prove '..Said' where nothing that the law and all that it calls make is longer than what came in: it says more and counts as full. Else prove '..UptoSaid'. A law counts once. -/
mutual
def uptoBulk {H : Type} : DataW H → Nat
  | .lit (.string bytes) => bytes.length + 1
  | .lit _ => 1
  | .nil => 1
  | .ptr d => uptoBulk d + 1
  | .slice elems spare => uptoBulkAll elems + uptoBulkAll spare + 1
  | .agg parts => uptoBulkAll parts + 1
  | .iface _ d => uptoBulk d + 1
  | .map entries => uptoBulkEntries entries + 1
  | .held _ => 1
def uptoBulkAll {H : Type} : List (DataW H) → Nat
  | [] => 0
  | d :: r => uptoBulk d + uptoBulkAll r
def uptoBulkEntries {H : Type} : List (Lit × DataW H) → Nat
  | [] => 0
  | x :: r => uptoBulkEntry x + uptoBulkEntries r
def uptoBulkEntry {H : Type} : Lit × DataW H → Nat
  | (.string bytes, d) => bytes.length + uptoBulk d + 1
  | (_, d) => uptoBulk d + 1
 end
def uptoSmall : (H : Type) → List (DataW H) → Bool := fun _ ds => decide (uptoBulkAll ds ≤ 1048576)
def OpenSpec.upto (s : _root_.Go.ChangeSpec) : _root_.Go.OpenSpec := { _root_.Go.OpenSpec.ofChange s with cond := some uptoSmall }

/-- 'grommetlaw20.RequestPlays', WHERE WHAT IT READS IS OF BULK AT MOST 1048576: true; the input reads as it did. -/
def requestPlaysUptoRow : OpenClaim := { program := "ytphcdndohdnolaa", sum := "5ef557eb0b4b289b503122ff60d74beb7ba1fbebd29786c326f3235859852751", func := "grommet/grommetlaw20.RequestPlays", spec := "requestPlays", unfollowed := true, recurses := true, apart := false, narrowed := true }
def RequestPlaysUptoSaid : Prop := requestPlaysUptoRow.holds Try.pinned (OpenSpec.upto requestPlaysSpec)

/-- 'grommetlaw20.RequestBack', WHERE WHAT IT READS IS OF BULK AT MOST 1048576: true; the input reads as it did. -/
def requestBackUptoRow : OpenClaim := { program := "ytphcdndohdnolaa", sum := "5ef557eb0b4b289b503122ff60d74beb7ba1fbebd29786c326f3235859852751", func := "grommet/grommetlaw20.RequestBack", spec := "requestBack", unfollowed := true, recurses := true, apart := false, narrowed := true }
def RequestBackUptoSaid : Prop := requestBackUptoRow.holds Try.pinned (OpenSpec.upto requestBackSpec)

/-- 'grommetlaw20.RequestFields', WHERE WHAT IT READS IS OF BULK AT MOST 1048576: true; the input reads as it did. -/
def requestFieldsUptoRow : OpenClaim := { program := "ytphcdndohdnolaa", sum := "5ef557eb0b4b289b503122ff60d74beb7ba1fbebd29786c326f3235859852751", func := "grommet/grommetlaw20.RequestFields", spec := "requestFields", unfollowed := true, recurses := true, apart := false, narrowed := true }
def RequestFieldsUptoSaid : Prop := requestFieldsUptoRow.holds Try.pinned (OpenSpec.upto requestFieldsSpec)

/-- 'grommetlaw20.RequestKinds', WHERE WHAT IT READS IS OF BULK AT MOST 1048576: true; the input reads as it did. -/
def requestKindsUptoRow : OpenClaim := { program := "ytphcdndohdnolaa", sum := "5ef557eb0b4b289b503122ff60d74beb7ba1fbebd29786c326f3235859852751", func := "grommet/grommetlaw20.RequestKinds", spec := "requestKinds", unfollowed := true, recurses := true, apart := false, narrowed := true }
def RequestKindsUptoSaid : Prop := requestKindsUptoRow.holds Try.pinned (OpenSpec.upto requestKindsSpec)

/-- 'grommetlaw20.RequestLong', WHERE WHAT IT READS IS OF BULK AT MOST 1048576: true; the input reads as it did. -/
def requestLongUptoRow : OpenClaim := { program := "ytphcdndohdnolaa", sum := "5ef557eb0b4b289b503122ff60d74beb7ba1fbebd29786c326f3235859852751", func := "grommet/grommetlaw20.RequestLong", spec := "requestLong", unfollowed := true, recurses := true, apart := false, narrowed := true }
def RequestLongUptoSaid : Prop := requestLongUptoRow.holds Try.pinned (OpenSpec.upto requestLongSpec)

/-- 'grommetlaw20.RequestOthers', WHERE WHAT IT READS IS OF BULK AT MOST 1048576: true; the input reads as it did. -/
def requestOthersUptoRow : OpenClaim := { program := "ytphcdndohdnolaa", sum := "5ef557eb0b4b289b503122ff60d74beb7ba1fbebd29786c326f3235859852751", func := "grommet/grommetlaw20.RequestOthers", spec := "requestOthers", unfollowed := true, recurses := true, apart := false, narrowed := true }
def RequestOthersUptoSaid : Prop := requestOthersUptoRow.holds Try.pinned (OpenSpec.upto requestOthersSpec)

end Rows
end Go.Proofs.Ytphcdndohdnolaa
