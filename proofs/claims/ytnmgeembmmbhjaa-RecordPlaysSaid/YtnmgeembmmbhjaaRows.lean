/-
  No cell of these rows narrows 'for every input' (looked for: loops, veiled, ifaces, maps, wideKeys, modest, calm, conditions, laid).
  DERIVED. THE GIVEN ROWS OF THIS SEAT. 5 by the template 'for every input the law returns true; each argument reads behind the call as it read before'; 0 by the template 'total and deterministic' (their statements: YtnmgeembmmbhjaaTotals.lean).
  GIVEN WITH THE SEED: the statements are not yours to turn. If you find one false, say at which input.
  Laid BY PROGRAM, IN A SANDBOX (cutbox-rows.mjs): the forced cells as the released guide's own fill.sh prints them over the translation e0bf571a027d981f… (all of the seat's roots in one cut). By AI agents, Wed Nov 11 2026. No macro, syntax, notation, axiom, sorry.
-/
import Derived.Test.YtnmgeembmmbhjaaChecked
import GoSem.Claim
import GoSem.ClaimJoined
import GoSem.ClaimMapViews
import Derived.JoinedTies
import Derived.KernelRfl
namespace Go.Proofs.Ytnmgeembmmbhjaa
/- THE CELL 'sum', in the pinned program and in every row, IS THE sha256 OF THE DUMP (.gsa) THAT YtnmgeembmmbhjaaProg.lean LOADS. Nothing in Lean hashes anything: it is a label: what it is worth is what the hold of that sum in a sandbox is worth. -/
noncomputable def Try.pinned : Pinned := { name := "ytnmgeembmmbhjaa", sum := "e0bf571a027d981f69b88727e26517a12b035e78babed679dad8c08ff49503e7", checked := Try.checked }
namespace Rows
def none {H : Type} : Left H := { results := [], args := [] }

/-- 'grommetlaw08.RecordPlays': WHATEVER THE INPUT: true; the input reads as it did. -/
def recordPlaysSpec : ChangeSpec := { name := "recordPlays", fn := fun _ => fun
  | [d1, d2, d3, d4, d5] => { results := [.lit (.bool true)], args := [d1, d2, d3, d4, d5] }
  | _ => none }
def recordPlaysRow : OpenClaim := { program := "ytnmgeembmmbhjaa", sum := "e0bf571a027d981f69b88727e26517a12b035e78babed679dad8c08ff49503e7", func := "grommet/grommetlaw08.RecordPlays", spec := "recordPlays", unfollowed := true, recurses := true, apart := false }
def RecordPlaysSaid : Prop := recordPlaysRow.holds Try.pinned (OpenSpec.ofChange recordPlaysSpec)

/-- ITS FALSE NEIGHBOUR: 'it returns false'. Refute it at one input. -/
def recordPlaysWrong : ChangeSpec := { name := "recordPlays", fn := fun _ => fun
  | [d1, d2, d3, d4, d5] => { results := [.lit (.bool false)], args := [d1, d2, d3, d4, d5] }
  | _ => none }
def RecordPlaysWrongFalsely : Prop := recordPlaysRow.holds Try.pinned (OpenSpec.ofChange recordPlaysWrong)

/-- 'grommetlaw08.RecordBack': WHATEVER THE INPUT: true; the input reads as it did. -/
def recordBackSpec : ChangeSpec := { name := "recordBack", fn := fun _ => fun
  | [d1, d2, d3] => { results := [.lit (.bool true)], args := [d1, d2, d3] }
  | _ => none }
def recordBackRow : OpenClaim := { program := "ytnmgeembmmbhjaa", sum := "e0bf571a027d981f69b88727e26517a12b035e78babed679dad8c08ff49503e7", func := "grommet/grommetlaw08.RecordBack", spec := "recordBack", unfollowed := true, recurses := true, apart := false }
def RecordBackSaid : Prop := recordBackRow.holds Try.pinned (OpenSpec.ofChange recordBackSpec)

/-- ITS FALSE NEIGHBOUR: 'it returns false'. Refute it at one input. -/
def recordBackWrong : ChangeSpec := { name := "recordBack", fn := fun _ => fun
  | [d1, d2, d3] => { results := [.lit (.bool false)], args := [d1, d2, d3] }
  | _ => none }
def RecordBackWrongFalsely : Prop := recordBackRow.holds Try.pinned (OpenSpec.ofChange recordBackWrong)

/-- 'grommetlaw08.RecordPlaces': WHATEVER THE INPUT: true; the input reads as it did. -/
def recordPlacesSpec : ChangeSpec := { name := "recordPlaces", fn := fun _ => fun
  | [d1, d2] => { results := [.lit (.bool true)], args := [d1, d2] }
  | _ => none }
def recordPlacesRow : OpenClaim := { program := "ytnmgeembmmbhjaa", sum := "e0bf571a027d981f69b88727e26517a12b035e78babed679dad8c08ff49503e7", func := "grommet/grommetlaw08.RecordPlaces", spec := "recordPlaces", unfollowed := true, recurses := true, apart := false }
def RecordPlacesSaid : Prop := recordPlacesRow.holds Try.pinned (OpenSpec.ofChange recordPlacesSpec)

/-- ITS FALSE NEIGHBOUR: 'it returns false'. Refute it at one input. -/
def recordPlacesWrong : ChangeSpec := { name := "recordPlaces", fn := fun _ => fun
  | [d1, d2] => { results := [.lit (.bool false)], args := [d1, d2] }
  | _ => none }
def RecordPlacesWrongFalsely : Prop := recordPlacesRow.holds Try.pinned (OpenSpec.ofChange recordPlacesWrong)

/-- 'grommetlaw08.RecordHurt': WHATEVER THE INPUT: true; the input reads as it did. -/
def recordHurtSpec : ChangeSpec := { name := "recordHurt", fn := fun _ => fun
  | [d1, d2, d3, d4] => { results := [.lit (.bool true)], args := [d1, d2, d3, d4] }
  | _ => none }
def recordHurtRow : OpenClaim := { program := "ytnmgeembmmbhjaa", sum := "e0bf571a027d981f69b88727e26517a12b035e78babed679dad8c08ff49503e7", func := "grommet/grommetlaw08.RecordHurt", spec := "recordHurt", unfollowed := true, recurses := true, apart := false }
def RecordHurtSaid : Prop := recordHurtRow.holds Try.pinned (OpenSpec.ofChange recordHurtSpec)

/-- ITS FALSE NEIGHBOUR: 'it returns false'. Refute it at one input. -/
def recordHurtWrong : ChangeSpec := { name := "recordHurt", fn := fun _ => fun
  | [d1, d2, d3, d4] => { results := [.lit (.bool false)], args := [d1, d2, d3, d4] }
  | _ => none }
def RecordHurtWrongFalsely : Prop := recordHurtRow.holds Try.pinned (OpenSpec.ofChange recordHurtWrong)

/-- 'grommetlaw08.RecordMarks': WHATEVER THE INPUT: true; the input reads as it did. -/
def recordMarksSpec : ChangeSpec := { name := "recordMarks", fn := fun _ => fun
  | [d1, d2, d3, d4] => { results := [.lit (.bool true)], args := [d1, d2, d3, d4] }
  | _ => none }
def recordMarksRow : OpenClaim := { program := "ytnmgeembmmbhjaa", sum := "e0bf571a027d981f69b88727e26517a12b035e78babed679dad8c08ff49503e7", func := "grommet/grommetlaw08.RecordMarks", spec := "recordMarks", unfollowed := true, recurses := true, apart := false }
def RecordMarksSaid : Prop := recordMarksRow.holds Try.pinned (OpenSpec.ofChange recordMarksSpec)

/-- ITS FALSE NEIGHBOUR: 'it returns false'. Refute it at one input. -/
def recordMarksWrong : ChangeSpec := { name := "recordMarks", fn := fun _ => fun
  | [d1, d2, d3, d4] => { results := [.lit (.bool false)], args := [d1, d2, d3, d4] }
  | _ => none }
def RecordMarksWrongFalsely : Prop := recordMarksRow.holds Try.pinned (OpenSpec.ofChange recordMarksWrong)

/- THE SECOND FORM. 'bulk': how many values and letters a reading holds, each counted each time it is reached (what is shared counts as often as it is met; a slice's spare places count too). A statement '..UptoSaid' is the law's where the arguments, and the package variables that the reading takes, are together of bulk at most 1048576: NARROWER than '..Said'. Prove '..Said' where nothing that the law and all that it calls make is longer than what came in: it says more and counts as full. Else prove '..UptoSaid'. A law counts once. -/
mutual
def uptoBulk {H : Type} : DataW H → Nat
  | .lit (.string bytes) => bytes.length + 1
  | .lit _ => 1
  | .nil => 1
  | .ptr d => uptoBulk d + 1
  | .slice elems spare => uptoBulkAll elems + uptoBulkAll spare + 1
  | .agg parts => uptoBulkAll parts + 1
  | .iface _ d => uptoBulk d + 1
  | .map entries => uptoBulkEntries entries + 1
  | .held _ => 1
def uptoBulkAll {H : Type} : List (DataW H) → Nat
  | [] => 0
  | d :: r => uptoBulk d + uptoBulkAll r
def uptoBulkEntries {H : Type} : List (Lit × DataW H) → Nat
  | [] => 0
  | x :: r => uptoBulkEntry x + uptoBulkEntries r
def uptoBulkEntry {H : Type} : Lit × DataW H → Nat
  | (.string bytes, d) => bytes.length + uptoBulk d + 1
  | (_, d) => uptoBulk d + 1
 end
def uptoSmall : (H : Type) → List (DataW H) → Bool := fun _ ds => decide (uptoBulkAll ds ≤ 1048576)
def OpenSpec.upto (s : _root_.Go.ChangeSpec) : _root_.Go.OpenSpec := { _root_.Go.OpenSpec.ofChange s with cond := some uptoSmall }

/-- 'grommetlaw08.RecordPlays', WHERE WHAT IT READS IS OF BULK AT MOST 1048576: true; the input reads as it did. -/
def recordPlaysUptoRow : OpenClaim := { program := "ytnmgeembmmbhjaa", sum := "e0bf571a027d981f69b88727e26517a12b035e78babed679dad8c08ff49503e7", func := "grommet/grommetlaw08.RecordPlays", spec := "recordPlays", unfollowed := true, recurses := true, apart := false, narrowed := true }
def RecordPlaysUptoSaid : Prop := recordPlaysUptoRow.holds Try.pinned (OpenSpec.upto recordPlaysSpec)

/-- 'grommetlaw08.RecordBack', WHERE WHAT IT READS IS OF BULK AT MOST 1048576: true; the input reads as it did. -/
def recordBackUptoRow : OpenClaim := { program := "ytnmgeembmmbhjaa", sum := "e0bf571a027d981f69b88727e26517a12b035e78babed679dad8c08ff49503e7", func := "grommet/grommetlaw08.RecordBack", spec := "recordBack", unfollowed := true, recurses := true, apart := false, narrowed := true }
def RecordBackUptoSaid : Prop := recordBackUptoRow.holds Try.pinned (OpenSpec.upto recordBackSpec)

/-- 'grommetlaw08.RecordPlaces', WHERE WHAT IT READS IS OF BULK AT MOST 1048576: true; the input reads as it did. -/
def recordPlacesUptoRow : OpenClaim := { program := "ytnmgeembmmbhjaa", sum := "e0bf571a027d981f69b88727e26517a12b035e78babed679dad8c08ff49503e7", func := "grommet/grommetlaw08.RecordPlaces", spec := "recordPlaces", unfollowed := true, recurses := true, apart := false, narrowed := true }
def RecordPlacesUptoSaid : Prop := recordPlacesUptoRow.holds Try.pinned (OpenSpec.upto recordPlacesSpec)

/-- 'grommetlaw08.RecordHurt', WHERE WHAT IT READS IS OF BULK AT MOST 1048576: true; the input reads as it did. -/
def recordHurtUptoRow : OpenClaim := { program := "ytnmgeembmmbhjaa", sum := "e0bf571a027d981f69b88727e26517a12b035e78babed679dad8c08ff49503e7", func := "grommet/grommetlaw08.RecordHurt", spec := "recordHurt", unfollowed := true, recurses := true, apart := false, narrowed := true }
def RecordHurtUptoSaid : Prop := recordHurtUptoRow.holds Try.pinned (OpenSpec.upto recordHurtSpec)

/-- 'grommetlaw08.RecordMarks', WHERE WHAT IT READS IS OF BULK AT MOST 1048576: true; the input reads as it did. -/
def recordMarksUptoRow : OpenClaim := { program := "ytnmgeembmmbhjaa", sum := "e0bf571a027d981f69b88727e26517a12b035e78babed679dad8c08ff49503e7", func := "grommet/grommetlaw08.RecordMarks", spec := "recordMarks", unfollowed := true, recurses := true, apart := false, narrowed := true }
def RecordMarksUptoSaid : Prop := recordMarksUptoRow.holds Try.pinned (OpenSpec.upto recordMarksSpec)

end Rows
end Go.Proofs.Ytnmgeembmmbhjaa
