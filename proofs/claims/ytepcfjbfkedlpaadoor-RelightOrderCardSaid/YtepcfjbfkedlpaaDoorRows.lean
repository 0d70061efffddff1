/-
  NARROWER THAN 'FOR EVERY INPUT', by the rows' own cells (each row's printed sentence says how): RelightWorks: laid · RelightUndoes: laid · RelightOrder: laid · RelightLimit: laid.
  DERIVED. THE GIVEN ROWS OF THIS SEAT. 4 by the template 'for every input the law returns true; each argument reads behind the call as it read before'; 0 by the template 'total and deterministic' (their statements: YtepcfjbfkedlpaaDoorTotals.lean).
  GIVEN WITH THE SEED: the statements are not yours to turn. If you find one false, say at which input.
  Laid BY PROGRAM, IN A SANDBOX (cutbox-rows.mjs): the forced cells as the released guide's own fill.sh prints them over the translation 2cb64320cc19a15e… (all of the seat's roots in one cut). By AI agents, Wed Nov 11 2026. No macro, syntax, notation, axiom, sorry.
-/
import Derived.Test.YtepcfjbfkedlpaaDoorChecked
import GoSem.Claim
import GoSem.ClaimJoined
import GoSem.ClaimMapViews
import Derived.JoinedTies
import Derived.KernelRfl
namespace Go.Proofs.YtepcfjbfkedlpaaDoor
/- THE CELL 'sum', in the pinned program and in every row, IS THE sha256 OF THE DUMP (.gsa) THAT YtepcfjbfkedlpaaDoorProg.lean LOADS. Nothing in Lean hashes anything: it is a label: what it is worth is what the hold of that sum in a sandbox is worth. -/
noncomputable def Tryd.pinned : Pinned := { name := "ytepcfjbfkedlpaadoor", sum := "2cb64320cc19a15e05dcf07c0de3c9fd5c5a93472c81e08d5ab46c2b729f6e8c", checked := Tryd.checked }
namespace Rows
def none {H : Type} : Left H := { results := [], args := [] }

/- WHAT THE LISTED PACKAGE-LEVEL VARIABLES READ AS WHEN THE CALL BEGINS. Each datum BY PROGRAM (the guide's laid-datum.mjs) off the statement by which the dump's own 'gosem.cut.vars' lays the variable. In a bare row this is a premise. The card (YtepcfjbfkedlpaaDoorCards.lean) ties it to the program's text. -/
def laid_voxel_material_kinds {H : Type} : DataW H := .agg [.agg [.lit (.string [103, 97, 115]), .lit (.bool false), .lit (.bool false), .lit (.bool false)], .agg [.lit (.string [115, 111, 108, 105, 100]), .lit (.bool true), .lit (.bool false), .lit (.bool false)], .agg [.lit (.string [102, 97, 108, 108, 105, 110, 103]), .lit (.bool true), .lit (.bool false), .lit (.bool true)], .agg [.lit (.string [108, 105, 113, 117, 105, 100]), .lit (.bool false), .lit (.bool true), .lit (.bool false)]]

/-- 'voxellaw34.RelightWorks': WHATEVER THE INPUT: true; the input reads as it did. -/
def relightWorksSpec : ChangeSpec := { name := "relightWorks", fn := fun _ => fun
  | [d1, d2, d3, d4, d5] => { results := [.lit (.bool true)], args := [d1, d2, d3, d4, d5] }
  | _ => none }
def relightWorksRow : OpenClaim := { program := "ytepcfjbfkedlpaadoor", sum := "2cb64320cc19a15e05dcf07c0de3c9fd5c5a93472c81e08d5ab46c2b729f6e8c", func := "voxel/voxellaw34.RelightWorks", spec := "relightWorks", unfollowed := true, recurses := true, named := ["voxel/material.kinds"], plainKeys := false, apart := false, laid := [("voxel/material.kinds", laid_voxel_material_kinds)] }
def RelightWorksSaid : Prop := relightWorksRow.holds Tryd.pinned (OpenSpec.ofChange relightWorksSpec)

/-- ITS FALSE NEIGHBOUR: 'it returns false'. Refute it at one input. -/
def relightWorksWrong : ChangeSpec := { name := "relightWorks", fn := fun _ => fun
  | [d1, d2, d3, d4, d5] => { results := [.lit (.bool false)], args := [d1, d2, d3, d4, d5] }
  | _ => none }
def RelightWorksWrongFalsely : Prop := relightWorksRow.holds Tryd.pinned (OpenSpec.ofChange relightWorksWrong)

/-- 'voxellaw34.RelightUndoes': WHATEVER THE INPUT: true; the input reads as it did. -/
def relightUndoesSpec : ChangeSpec := { name := "relightUndoes", fn := fun _ => fun
  | [d1, d2, d3, d4, d5, d6] => { results := [.lit (.bool true)], args := [d1, d2, d3, d4, d5, d6] }
  | _ => none }
def relightUndoesRow : OpenClaim := { program := "ytepcfjbfkedlpaadoor", sum := "2cb64320cc19a15e05dcf07c0de3c9fd5c5a93472c81e08d5ab46c2b729f6e8c", func := "voxel/voxellaw34.RelightUndoes", spec := "relightUndoes", unfollowed := true, recurses := true, named := ["voxel/material.kinds"], plainKeys := false, apart := false, laid := [("voxel/material.kinds", laid_voxel_material_kinds)] }
def RelightUndoesSaid : Prop := relightUndoesRow.holds Tryd.pinned (OpenSpec.ofChange relightUndoesSpec)

/-- ITS FALSE NEIGHBOUR: 'it returns false'. Refute it at one input. -/
def relightUndoesWrong : ChangeSpec := { name := "relightUndoes", fn := fun _ => fun
  | [d1, d2, d3, d4, d5, d6] => { results := [.lit (.bool false)], args := [d1, d2, d3, d4, d5, d6] }
  | _ => none }
def RelightUndoesWrongFalsely : Prop := relightUndoesRow.holds Tryd.pinned (OpenSpec.ofChange relightUndoesWrong)

/-- 'voxellaw34.RelightOrder': WHATEVER THE INPUT: true; the input reads as it did. -/
def relightOrderSpec : ChangeSpec := { name := "relightOrder", fn := fun _ => fun
  | [d1, d2, d3, d4] => { results := [.lit (.bool true)], args := [d1, d2, d3, d4] }
  | _ => none }
def relightOrderRow : OpenClaim := { program := "ytepcfjbfkedlpaadoor", sum := "2cb64320cc19a15e05dcf07c0de3c9fd5c5a93472c81e08d5ab46c2b729f6e8c", func := "voxel/voxellaw34.RelightOrder", spec := "relightOrder", unfollowed := true, recurses := true, named := ["voxel/material.kinds"], plainKeys := false, apart := false, laid := [("voxel/material.kinds", laid_voxel_material_kinds)] }
def RelightOrderSaid : Prop := relightOrderRow.holds Tryd.pinned (OpenSpec.ofChange relightOrderSpec)

/-- ITS FALSE NEIGHBOUR: 'it returns false'. Refute it at one input. -/
def relightOrderWrong : ChangeSpec := { name := "relightOrder", fn := fun _ => fun
  | [d1, d2, d3, d4] => { results := [.lit (.bool false)], args := [d1, d2, d3, d4] }
  | _ => none }
def RelightOrderWrongFalsely : Prop := relightOrderRow.holds Tryd.pinned (OpenSpec.ofChange relightOrderWrong)

/-- 'voxellaw34.RelightLimit': WHATEVER THE INPUT: true; the input reads as it did. -/
def relightLimitSpec : ChangeSpec := { name := "relightLimit", fn := fun _ => fun
  | [d1, d2, d3, d4, d5] => { results := [.lit (.bool true)], args := [d1, d2, d3, d4, d5] }
  | _ => none }
def relightLimitRow : OpenClaim := { program := "ytepcfjbfkedlpaadoor", sum := "2cb64320cc19a15e05dcf07c0de3c9fd5c5a93472c81e08d5ab46c2b729f6e8c", func := "voxel/voxellaw34.RelightLimit", spec := "relightLimit", unfollowed := true, recurses := true, named := ["voxel/material.kinds"], plainKeys := false, apart := false, laid := [("voxel/material.kinds", laid_voxel_material_kinds)] }
def RelightLimitSaid : Prop := relightLimitRow.holds Tryd.pinned (OpenSpec.ofChange relightLimitSpec)

/-- ITS FALSE NEIGHBOUR: 'it returns false'. Refute it at one input. -/
def relightLimitWrong : ChangeSpec := { name := "relightLimit", fn := fun _ => fun
  | [d1, d2, d3, d4, d5] => { results := [.lit (.bool false)], args := [d1, d2, d3, d4, d5] }
  | _ => none }
def RelightLimitWrongFalsely : Prop := relightLimitRow.holds Tryd.pinned (OpenSpec.ofChange relightLimitWrong)

/- THE SECOND FORM. 'bulk': how many values and letters a reading holds, each counted each time it is reached (what is shared counts as often as it is met; a slice's spare places count too). A statement '..UptoSaid' is the law's where the arguments, and the package variables that the reading takes, are together of bulk at most 1048576: NARROWER than '..Said'. Prove '..Said' where nothing that the law and all that it calls make is longer than what came in: it says more and counts as full. Else prove '..UptoSaid'. A law counts once. -/
mutual
def uptoBulk {H : Type} : DataW H → Nat
  | .lit (.string bytes) => bytes.length + 1
  | .lit _ => 1
  | .nil => 1
  | .ptr d => uptoBulk d + 1
  | .slice elems spare => uptoBulkAll elems + uptoBulkAll spare + 1
  | .agg parts => uptoBulkAll parts + 1
  | .iface _ d => uptoBulk d + 1
  | .map entries => uptoBulkEntries entries + 1
  | .held _ => 1
def uptoBulkAll {H : Type} : List (DataW H) → Nat
  | [] => 0
  | d :: r => uptoBulk d + uptoBulkAll r
def uptoBulkEntries {H : Type} : List (Lit × DataW H) → Nat
  | [] => 0
  | x :: r => uptoBulkEntry x + uptoBulkEntries r
def uptoBulkEntry {H : Type} : Lit × DataW H → Nat
  | (.string bytes, d) => bytes.length + uptoBulk d + 1
  | (_, d) => uptoBulk d + 1
 end
def uptoSmall : (H : Type) → List (DataW H) → Bool := fun _ ds => decide (uptoBulkAll ds ≤ 1048576)
def OpenSpec.upto (s : _root_.Go.ChangeSpec) : _root_.Go.OpenSpec := { _root_.Go.OpenSpec.ofChange s with cond := some uptoSmall }

/-- 'voxellaw34.RelightWorks', WHERE WHAT IT READS IS OF BULK AT MOST 1048576: true; the input reads as it did. -/
def relightWorksUptoRow : OpenClaim := { program := "ytepcfjbfkedlpaadoor", sum := "2cb64320cc19a15e05dcf07c0de3c9fd5c5a93472c81e08d5ab46c2b729f6e8c", func := "voxel/voxellaw34.RelightWorks", spec := "relightWorks", unfollowed := true, recurses := true, named := ["voxel/material.kinds"], plainKeys := false, apart := false, laid := [("voxel/material.kinds", laid_voxel_material_kinds)], narrowed := true }
def RelightWorksUptoSaid : Prop := relightWorksUptoRow.holds Tryd.pinned (OpenSpec.upto relightWorksSpec)

/-- 'voxellaw34.RelightUndoes', WHERE WHAT IT READS IS OF BULK AT MOST 1048576: true; the input reads as it did. -/
def relightUndoesUptoRow : OpenClaim := { program := "ytepcfjbfkedlpaadoor", sum := "2cb64320cc19a15e05dcf07c0de3c9fd5c5a93472c81e08d5ab46c2b729f6e8c", func := "voxel/voxellaw34.RelightUndoes", spec := "relightUndoes", unfollowed := true, recurses := true, named := ["voxel/material.kinds"], plainKeys := false, apart := false, laid := [("voxel/material.kinds", laid_voxel_material_kinds)], narrowed := true }
def RelightUndoesUptoSaid : Prop := relightUndoesUptoRow.holds Tryd.pinned (OpenSpec.upto relightUndoesSpec)

/-- 'voxellaw34.RelightOrder', WHERE WHAT IT READS IS OF BULK AT MOST 1048576: true; the input reads as it did. -/
def relightOrderUptoRow : OpenClaim := { program := "ytepcfjbfkedlpaadoor", sum := "2cb64320cc19a15e05dcf07c0de3c9fd5c5a93472c81e08d5ab46c2b729f6e8c", func := "voxel/voxellaw34.RelightOrder", spec := "relightOrder", unfollowed := true, recurses := true, named := ["voxel/material.kinds"], plainKeys := false, apart := false, laid := [("voxel/material.kinds", laid_voxel_material_kinds)], narrowed := true }
def RelightOrderUptoSaid : Prop := relightOrderUptoRow.holds Tryd.pinned (OpenSpec.upto relightOrderSpec)

/-- 'voxellaw34.RelightLimit', WHERE WHAT IT READS IS OF BULK AT MOST 1048576: true; the input reads as it did. -/
def relightLimitUptoRow : OpenClaim := { program := "ytepcfjbfkedlpaadoor", sum := "2cb64320cc19a15e05dcf07c0de3c9fd5c5a93472c81e08d5ab46c2b729f6e8c", func := "voxel/voxellaw34.RelightLimit", spec := "relightLimit", unfollowed := true, recurses := true, named := ["voxel/material.kinds"], plainKeys := false, apart := false, laid := [("voxel/material.kinds", laid_voxel_material_kinds)], narrowed := true }
def RelightLimitUptoSaid : Prop := relightLimitUptoRow.holds Tryd.pinned (OpenSpec.upto relightLimitSpec)

end Rows
end Go.Proofs.YtepcfjbfkedlpaaDoor
