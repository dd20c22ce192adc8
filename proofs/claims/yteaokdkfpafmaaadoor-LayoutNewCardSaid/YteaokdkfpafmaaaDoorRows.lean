/-
  NARROWER THAN 'FOR EVERY INPUT', by the rows' own cells (each row's printed sentence says how): LayoutPlays: laid · LayoutRows: laid · LayoutFormats: laid · LayoutNew: laid · LayoutWhere: laid · LayoutNone: laid · LayoutWhole: laid.
  DERIVED. THE GIVEN ROWS OF THIS SEAT. 7 by the template 'for every input the law returns true; each argument reads behind the call as it read before'; 0 by the template 'total and deterministic' (their statements: YteaokdkfpafmaaaDoorTotals.lean).
  GIVEN WITH THE SEED: the statements are not yours to turn. If you find one false, say at which input.
  Laid BY PROGRAM, IN A SANDBOX (cutbox-rows.mjs): the forced cells as the released guide's own fill.sh prints them over the translation 5151638782edaf29… (all of the seat's roots in one cut). By AI agents, Wed Nov 11 2026. No macro, syntax, notation, axiom, sorry.
-/
import Derived.Test.YteaokdkfpafmaaaDoorChecked
import GoSem.Claim
import GoSem.ClaimJoined
import GoSem.ClaimMapViews
import Derived.JoinedTies
import Derived.KernelRfl
namespace Go.Proofs.YteaokdkfpafmaaaDoor
/- THE CELL 'sum', in the pinned program and in every row, IS THE sha256 OF THE DUMP (.gsa) THAT YteaokdkfpafmaaaDoorProg.lean LOADS. Nothing in Lean hashes anything: it is a label: what it is worth is what the hold of that sum in a sandbox is worth. -/
noncomputable def Tryd.pinned : Pinned := { name := "yteaokdkfpafmaaadoor", sum := "5151638782edaf29a5112b82973139f74a5e6f6a24b7847e9b581f7619e41cc8", checked := Tryd.checked }
namespace Rows
def none {H : Type} : Left H := { results := [], args := [] }

/- WHAT THE LISTED PACKAGE-LEVEL VARIABLES READ AS WHEN THE CALL BEGINS. Each datum BY PROGRAM (the guide's laid-datum.mjs) off the statement by which the dump's own 'gosem.cut.vars' lays the variable. In a bare row this is a premise. The card (YteaokdkfpafmaaaDoorCards.lean) ties it to the program's text. -/
def laid_grommet_layout_least {H : Type} : DataW H := .agg [.lit (.int .i64 1), .lit (.int .i64 2), .lit (.int .i64 2)]

/-- 'grommetlaw04.LayoutPlays': WHATEVER THE INPUT: true; the input reads as it did. -/
def layoutPlaysSpec : ChangeSpec := { name := "layoutPlays", fn := fun _ => fun
  | [d1, d2, d3] => { results := [.lit (.bool true)], args := [d1, d2, d3] }
  | _ => none }
def layoutPlaysRow : OpenClaim := { program := "yteaokdkfpafmaaadoor", sum := "5151638782edaf29a5112b82973139f74a5e6f6a24b7847e9b581f7619e41cc8", func := "grommet/grommetlaw04.LayoutPlays", spec := "layoutPlays", named := ["grommet/layout.least"], apart := false, laid := [("grommet/layout.least", laid_grommet_layout_least)] }
def LayoutPlaysSaid : Prop := layoutPlaysRow.holds Tryd.pinned (OpenSpec.ofChange layoutPlaysSpec)

/-- ITS FALSE NEIGHBOUR: 'it returns false'. Refute it at one input. -/
def layoutPlaysWrong : ChangeSpec := { name := "layoutPlays", fn := fun _ => fun
  | [d1, d2, d3] => { results := [.lit (.bool false)], args := [d1, d2, d3] }
  | _ => none }
def LayoutPlaysWrongFalsely : Prop := layoutPlaysRow.holds Tryd.pinned (OpenSpec.ofChange layoutPlaysWrong)

/-- 'grommetlaw04.LayoutRows': WHATEVER THE INPUT: true; the input reads as it did. -/
def layoutRowsSpec : ChangeSpec := { name := "layoutRows", fn := fun _ => fun
  | [d1, d2, d3] => { results := [.lit (.bool true)], args := [d1, d2, d3] }
  | _ => none }
def layoutRowsRow : OpenClaim := { program := "yteaokdkfpafmaaadoor", sum := "5151638782edaf29a5112b82973139f74a5e6f6a24b7847e9b581f7619e41cc8", func := "grommet/grommetlaw04.LayoutRows", spec := "layoutRows", named := ["grommet/layout.least"], apart := false, laid := [("grommet/layout.least", laid_grommet_layout_least)] }
def LayoutRowsSaid : Prop := layoutRowsRow.holds Tryd.pinned (OpenSpec.ofChange layoutRowsSpec)

/-- ITS FALSE NEIGHBOUR: 'it returns false'. Refute it at one input. -/
def layoutRowsWrong : ChangeSpec := { name := "layoutRows", fn := fun _ => fun
  | [d1, d2, d3] => { results := [.lit (.bool false)], args := [d1, d2, d3] }
  | _ => none }
def LayoutRowsWrongFalsely : Prop := layoutRowsRow.holds Tryd.pinned (OpenSpec.ofChange layoutRowsWrong)

/-- 'grommetlaw04.LayoutFormats': WHATEVER THE INPUT: true; the input reads as it did. -/
def layoutFormatsSpec : ChangeSpec := { name := "layoutFormats", fn := fun _ => fun
  | [d1, d2, d3, d4] => { results := [.lit (.bool true)], args := [d1, d2, d3, d4] }
  | _ => none }
def layoutFormatsRow : OpenClaim := { program := "yteaokdkfpafmaaadoor", sum := "5151638782edaf29a5112b82973139f74a5e6f6a24b7847e9b581f7619e41cc8", func := "grommet/grommetlaw04.LayoutFormats", spec := "layoutFormats", named := ["grommet/layout.least"], apart := false, laid := [("grommet/layout.least", laid_grommet_layout_least)] }
def LayoutFormatsSaid : Prop := layoutFormatsRow.holds Tryd.pinned (OpenSpec.ofChange layoutFormatsSpec)

/-- ITS FALSE NEIGHBOUR: 'it returns false'. Refute it at one input. -/
def layoutFormatsWrong : ChangeSpec := { name := "layoutFormats", fn := fun _ => fun
  | [d1, d2, d3, d4] => { results := [.lit (.bool false)], args := [d1, d2, d3, d4] }
  | _ => none }
def LayoutFormatsWrongFalsely : Prop := layoutFormatsRow.holds Tryd.pinned (OpenSpec.ofChange layoutFormatsWrong)

/-- 'grommetlaw04.LayoutNew': WHATEVER THE INPUT: true; the input reads as it did. -/
def layoutNewSpec : ChangeSpec := { name := "layoutNew", fn := fun _ => fun
  | [d1, d2, d3, d4] => { results := [.lit (.bool true)], args := [d1, d2, d3, d4] }
  | _ => none }
def layoutNewRow : OpenClaim := { program := "yteaokdkfpafmaaadoor", sum := "5151638782edaf29a5112b82973139f74a5e6f6a24b7847e9b581f7619e41cc8", func := "grommet/grommetlaw04.LayoutNew", spec := "layoutNew", named := ["grommet/layout.least"], apart := false, laid := [("grommet/layout.least", laid_grommet_layout_least)] }
def LayoutNewSaid : Prop := layoutNewRow.holds Tryd.pinned (OpenSpec.ofChange layoutNewSpec)

/-- ITS FALSE NEIGHBOUR: 'it returns false'. Refute it at one input. -/
def layoutNewWrong : ChangeSpec := { name := "layoutNew", fn := fun _ => fun
  | [d1, d2, d3, d4] => { results := [.lit (.bool false)], args := [d1, d2, d3, d4] }
  | _ => none }
def LayoutNewWrongFalsely : Prop := layoutNewRow.holds Tryd.pinned (OpenSpec.ofChange layoutNewWrong)

/-- 'grommetlaw04.LayoutWhere': WHATEVER THE INPUT: true; the input reads as it did. -/
def layoutWhereSpec : ChangeSpec := { name := "layoutWhere", fn := fun _ => fun
  | [d1, d2] => { results := [.lit (.bool true)], args := [d1, d2] }
  | _ => none }
def layoutWhereRow : OpenClaim := { program := "yteaokdkfpafmaaadoor", sum := "5151638782edaf29a5112b82973139f74a5e6f6a24b7847e9b581f7619e41cc8", func := "grommet/grommetlaw04.LayoutWhere", spec := "layoutWhere", named := ["grommet/layout.least"], apart := false, laid := [("grommet/layout.least", laid_grommet_layout_least)] }
def LayoutWhereSaid : Prop := layoutWhereRow.holds Tryd.pinned (OpenSpec.ofChange layoutWhereSpec)

/-- ITS FALSE NEIGHBOUR: 'it returns false'. Refute it at one input. -/
def layoutWhereWrong : ChangeSpec := { name := "layoutWhere", fn := fun _ => fun
  | [d1, d2] => { results := [.lit (.bool false)], args := [d1, d2] }
  | _ => none }
def LayoutWhereWrongFalsely : Prop := layoutWhereRow.holds Tryd.pinned (OpenSpec.ofChange layoutWhereWrong)

/-- 'grommetlaw04.LayoutNone': WHATEVER THE INPUT: true; the input reads as it did. -/
def layoutNoneSpec : ChangeSpec := { name := "layoutNone", fn := fun _ => fun
  | [d1, d2, d3] => { results := [.lit (.bool true)], args := [d1, d2, d3] }
  | _ => none }
def layoutNoneRow : OpenClaim := { program := "yteaokdkfpafmaaadoor", sum := "5151638782edaf29a5112b82973139f74a5e6f6a24b7847e9b581f7619e41cc8", func := "grommet/grommetlaw04.LayoutNone", spec := "layoutNone", named := ["grommet/layout.least"], apart := false, laid := [("grommet/layout.least", laid_grommet_layout_least)] }
def LayoutNoneSaid : Prop := layoutNoneRow.holds Tryd.pinned (OpenSpec.ofChange layoutNoneSpec)

/-- ITS FALSE NEIGHBOUR: 'it returns false'. Refute it at one input. -/
def layoutNoneWrong : ChangeSpec := { name := "layoutNone", fn := fun _ => fun
  | [d1, d2, d3] => { results := [.lit (.bool false)], args := [d1, d2, d3] }
  | _ => none }
def LayoutNoneWrongFalsely : Prop := layoutNoneRow.holds Tryd.pinned (OpenSpec.ofChange layoutNoneWrong)

/-- 'grommetlaw04.LayoutWhole': WHATEVER THE INPUT: true; the input reads as it did. -/
def layoutWholeSpec : ChangeSpec := { name := "layoutWhole", fn := fun _ => fun
  | [d1, d2, d3] => { results := [.lit (.bool true)], args := [d1, d2, d3] }
  | _ => none }
def layoutWholeRow : OpenClaim := { program := "yteaokdkfpafmaaadoor", sum := "5151638782edaf29a5112b82973139f74a5e6f6a24b7847e9b581f7619e41cc8", func := "grommet/grommetlaw04.LayoutWhole", spec := "layoutWhole", named := ["grommet/layout.least"], apart := false, laid := [("grommet/layout.least", laid_grommet_layout_least)] }
def LayoutWholeSaid : Prop := layoutWholeRow.holds Tryd.pinned (OpenSpec.ofChange layoutWholeSpec)

/-- ITS FALSE NEIGHBOUR: 'it returns false'. Refute it at one input. -/
def layoutWholeWrong : ChangeSpec := { name := "layoutWhole", fn := fun _ => fun
  | [d1, d2, d3] => { results := [.lit (.bool false)], args := [d1, d2, d3] }
  | _ => none }
def LayoutWholeWrongFalsely : Prop := layoutWholeRow.holds Tryd.pinned (OpenSpec.ofChange layoutWholeWrong)

/- THE SECOND FORM. 'bulk': how many values and letters a reading holds, each counted each time it is reached (what is shared counts as often as it is met; a slice's spare places count too). A statement '..UptoSaid' is the law's where the arguments, and the package variables that the reading takes, are together of bulk at most 1048576: NARROWER than '..Said'. Prove '..Said' where nothing that the law and all that it calls make is longer than what came in: it says more and counts as full. Else prove '..UptoSaid'. A law counts once. -/
mutual
def uptoBulk {H : Type} : DataW H → Nat
  | .lit (.string bytes) => bytes.length + 1
  | .lit _ => 1
  | .nil => 1
  | .ptr d => uptoBulk d + 1
  | .slice elems spare => uptoBulkAll elems + uptoBulkAll spare + 1
  | .agg parts => uptoBulkAll parts + 1
  | .iface _ d => uptoBulk d + 1
  | .map entries => uptoBulkEntries entries + 1
  | .held _ => 1
def uptoBulkAll {H : Type} : List (DataW H) → Nat
  | [] => 0
  | d :: r => uptoBulk d + uptoBulkAll r
def uptoBulkEntries {H : Type} : List (Lit × DataW H) → Nat
  | [] => 0
  | x :: r => uptoBulkEntry x + uptoBulkEntries r
def uptoBulkEntry {H : Type} : Lit × DataW H → Nat
  | (.string bytes, d) => bytes.length + uptoBulk d + 1
  | (_, d) => uptoBulk d + 1
 end
def uptoSmall : (H : Type) → List (DataW H) → Bool := fun _ ds => decide (uptoBulkAll ds ≤ 1048576)
def OpenSpec.upto (s : _root_.Go.ChangeSpec) : _root_.Go.OpenSpec := { _root_.Go.OpenSpec.ofChange s with cond := some uptoSmall }

/-- 'grommetlaw04.LayoutPlays', WHERE WHAT IT READS IS OF BULK AT MOST 1048576: true; the input reads as it did. -/
def layoutPlaysUptoRow : OpenClaim := { program := "yteaokdkfpafmaaadoor", sum := "5151638782edaf29a5112b82973139f74a5e6f6a24b7847e9b581f7619e41cc8", func := "grommet/grommetlaw04.LayoutPlays", spec := "layoutPlays", named := ["grommet/layout.least"], apart := false, laid := [("grommet/layout.least", laid_grommet_layout_least)], narrowed := true }
def LayoutPlaysUptoSaid : Prop := layoutPlaysUptoRow.holds Tryd.pinned (OpenSpec.upto layoutPlaysSpec)

/-- 'grommetlaw04.LayoutRows', WHERE WHAT IT READS IS OF BULK AT MOST 1048576: true; the input reads as it did. -/
def layoutRowsUptoRow : OpenClaim := { program := "yteaokdkfpafmaaadoor", sum := "5151638782edaf29a5112b82973139f74a5e6f6a24b7847e9b581f7619e41cc8", func := "grommet/grommetlaw04.LayoutRows", spec := "layoutRows", named := ["grommet/layout.least"], apart := false, laid := [("grommet/layout.least", laid_grommet_layout_least)], narrowed := true }
def LayoutRowsUptoSaid : Prop := layoutRowsUptoRow.holds Tryd.pinned (OpenSpec.upto layoutRowsSpec)

/-- 'grommetlaw04.LayoutFormats', WHERE WHAT IT READS IS OF BULK AT MOST 1048576: true; the input reads as it did. -/
def layoutFormatsUptoRow : OpenClaim := { program := "yteaokdkfpafmaaadoor", sum := "5151638782edaf29a5112b82973139f74a5e6f6a24b7847e9b581f7619e41cc8", func := "grommet/grommetlaw04.LayoutFormats", spec := "layoutFormats", named := ["grommet/layout.least"], apart := false, laid := [("grommet/layout.least", laid_grommet_layout_least)], narrowed := true }
def LayoutFormatsUptoSaid : Prop := layoutFormatsUptoRow.holds Tryd.pinned (OpenSpec.upto layoutFormatsSpec)

/-- 'grommetlaw04.LayoutNew', WHERE WHAT IT READS IS OF BULK AT MOST 1048576: true; the input reads as it did. -/
def layoutNewUptoRow : OpenClaim := { program := "yteaokdkfpafmaaadoor", sum := "5151638782edaf29a5112b82973139f74a5e6f6a24b7847e9b581f7619e41cc8", func := "grommet/grommetlaw04.LayoutNew", spec := "layoutNew", named := ["grommet/layout.least"], apart := false, laid := [("grommet/layout.least", laid_grommet_layout_least)], narrowed := true }
def LayoutNewUptoSaid : Prop := layoutNewUptoRow.holds Tryd.pinned (OpenSpec.upto layoutNewSpec)

/-- 'grommetlaw04.LayoutWhere', WHERE WHAT IT READS IS OF BULK AT MOST 1048576: true; the input reads as it did. -/
def layoutWhereUptoRow : OpenClaim := { program := "yteaokdkfpafmaaadoor", sum := "5151638782edaf29a5112b82973139f74a5e6f6a24b7847e9b581f7619e41cc8", func := "grommet/grommetlaw04.LayoutWhere", spec := "layoutWhere", named := ["grommet/layout.least"], apart := false, laid := [("grommet/layout.least", laid_grommet_layout_least)], narrowed := true }
def LayoutWhereUptoSaid : Prop := layoutWhereUptoRow.holds Tryd.pinned (OpenSpec.upto layoutWhereSpec)

/-- 'grommetlaw04.LayoutNone', WHERE WHAT IT READS IS OF BULK AT MOST 1048576: true; the input reads as it did. -/
def layoutNoneUptoRow : OpenClaim := { program := "yteaokdkfpafmaaadoor", sum := "5151638782edaf29a5112b82973139f74a5e6f6a24b7847e9b581f7619e41cc8", func := "grommet/grommetlaw04.LayoutNone", spec := "layoutNone", named := ["grommet/layout.least"], apart := false, laid := [("grommet/layout.least", laid_grommet_layout_least)], narrowed := true }
def LayoutNoneUptoSaid : Prop := layoutNoneUptoRow.holds Tryd.pinned (OpenSpec.upto layoutNoneSpec)

/-- 'grommetlaw04.LayoutWhole', WHERE WHAT IT READS IS OF BULK AT MOST 1048576: true; the input reads as it did. -/
def layoutWholeUptoRow : OpenClaim := { program := "yteaokdkfpafmaaadoor", sum := "5151638782edaf29a5112b82973139f74a5e6f6a24b7847e9b581f7619e41cc8", func := "grommet/grommetlaw04.LayoutWhole", spec := "layoutWhole", named := ["grommet/layout.least"], apart := false, laid := [("grommet/layout.least", laid_grommet_layout_least)], narrowed := true }
def LayoutWholeUptoSaid : Prop := layoutWholeUptoRow.holds Tryd.pinned (OpenSpec.upto layoutWholeSpec)

end Rows
end Go.Proofs.YteaokdkfpafmaaaDoor
