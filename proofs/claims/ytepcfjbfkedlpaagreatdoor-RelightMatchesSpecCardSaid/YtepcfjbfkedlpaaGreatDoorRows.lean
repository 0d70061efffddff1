/-
  NARROWER THAN 'FOR EVERY INPUT', by the rows' own cells (each row's printed sentence says how): RelightMatchesSpec: laid · RelightIsFull: laid.
  DERIVED. THE GIVEN ROWS OF THIS SEAT. 2 by the template 'for every input the law returns true; each argument reads behind the call as it read before'; 0 by the template 'total and deterministic' (their statements: YtepcfjbfkedlpaaGreatDoorTotals.lean).
  GIVEN WITH THE SEED: the statements are not yours to turn. If you find one false, say at which input.
  Laid BY PROGRAM, IN A SANDBOX (cutbox-rows.mjs): the forced cells as the released guide's own fill.sh prints them over the translation ff90511b9fb11641… (all of the seat's roots in one cut). By AI agents, Wed Nov 11 2026. No macro, syntax, notation, axiom, sorry.
-/
import Derived.Test.YtepcfjbfkedlpaaGreatDoorChecked
import GoSem.Claim
import GoSem.ClaimJoined
import GoSem.ClaimMapViews
import Derived.JoinedTies
import Derived.KernelRfl
namespace Go.Proofs.YtepcfjbfkedlpaaGreatDoor
/- THE CELL 'sum', in the pinned program and in every row, IS THE sha256 OF THE DUMP (.gsa) THAT YtepcfjbfkedlpaaGreatDoorProg.lean LOADS. Nothing in Lean hashes anything: it is a label: what it is worth is what the hold of that sum in a sandbox is worth. -/
noncomputable def Tryz.pinned : Pinned := { name := "ytepcfjbfkedlpaagreatdoor", sum := "ff90511b9fb116410ffe3b8b42c283d49ca5be5500ceb3a092bb4d80c7142363", checked := Tryz.checked }
namespace Rows
def none {H : Type} : Left H := { results := [], args := [] }

/- WHAT THE LISTED PACKAGE-LEVEL VARIABLES READ AS WHEN THE CALL BEGINS. Each datum BY PROGRAM (the guide's laid-datum.mjs) off the statement by which the dump's own 'gosem.cut.vars' lays the variable. In a bare row this is a premise. The card (YtepcfjbfkedlpaaGreatDoorCards.lean) ties it to the program's text. -/
def laid_voxel_material_kinds {H : Type} : DataW H := .agg [.agg [.lit (.string [103, 97, 115]), .lit (.bool false), .lit (.bool false), .lit (.bool false)], .agg [.lit (.string [115, 111, 108, 105, 100]), .lit (.bool true), .lit (.bool false), .lit (.bool false)], .agg [.lit (.string [102, 97, 108, 108, 105, 110, 103]), .lit (.bool true), .lit (.bool false), .lit (.bool true)], .agg [.lit (.string [108, 105, 113, 117, 105, 100]), .lit (.bool false), .lit (.bool true), .lit (.bool false)]]

/-- 'voxellaw34.RelightMatchesSpec': WHATEVER THE INPUT: true; the input reads as it did. -/
def relightMatchesSpecSpec : ChangeSpec := { name := "relightMatchesSpec", fn := fun _ => fun
  | [d1, d2, d3, d4, d5] => { results := [.lit (.bool true)], args := [d1, d2, d3, d4, d5] }
  | _ => none }
def relightMatchesSpecRow : OpenClaim := { program := "ytepcfjbfkedlpaagreatdoor", sum := "ff90511b9fb116410ffe3b8b42c283d49ca5be5500ceb3a092bb4d80c7142363", func := "voxel/voxellaw34.RelightMatchesSpec", spec := "relightMatchesSpec", unfollowed := true, recurses := true, named := ["voxel/material.kinds"], apart := false, laid := [("voxel/material.kinds", laid_voxel_material_kinds)] }
def RelightMatchesSpecSaid : Prop := relightMatchesSpecRow.holds Tryz.pinned (OpenSpec.ofChange relightMatchesSpecSpec)

/-- ITS FALSE NEIGHBOUR: 'it returns false'. Refute it at one input. -/
def relightMatchesSpecWrong : ChangeSpec := { name := "relightMatchesSpec", fn := fun _ => fun
  | [d1, d2, d3, d4, d5] => { results := [.lit (.bool false)], args := [d1, d2, d3, d4, d5] }
  | _ => none }
def RelightMatchesSpecWrongFalsely : Prop := relightMatchesSpecRow.holds Tryz.pinned (OpenSpec.ofChange relightMatchesSpecWrong)

/-- 'voxellaw34.RelightIsFull': WHATEVER THE INPUT: true; the input reads as it did. -/
def relightIsFullSpec : ChangeSpec := { name := "relightIsFull", fn := fun _ => fun
  | [d1, d2, d3, d4] => { results := [.lit (.bool true)], args := [d1, d2, d3, d4] }
  | _ => none }
def relightIsFullRow : OpenClaim := { program := "ytepcfjbfkedlpaagreatdoor", sum := "ff90511b9fb116410ffe3b8b42c283d49ca5be5500ceb3a092bb4d80c7142363", func := "voxel/voxellaw34.RelightIsFull", spec := "relightIsFull", unfollowed := true, recurses := true, named := ["voxel/material.kinds"], apart := false, laid := [("voxel/material.kinds", laid_voxel_material_kinds)] }
def RelightIsFullSaid : Prop := relightIsFullRow.holds Tryz.pinned (OpenSpec.ofChange relightIsFullSpec)

/-- ITS FALSE NEIGHBOUR: 'it returns false'. Refute it at one input. -/
def relightIsFullWrong : ChangeSpec := { name := "relightIsFull", fn := fun _ => fun
  | [d1, d2, d3, d4] => { results := [.lit (.bool false)], args := [d1, d2, d3, d4] }
  | _ => none }
def RelightIsFullWrongFalsely : Prop := relightIsFullRow.holds Tryz.pinned (OpenSpec.ofChange relightIsFullWrong)

/- THE SECOND FORM. 'bulk': how many values and letters a reading holds, each counted each time it is reached (what is shared counts as often as it is met; a slice's spare places count too). A statement '..UptoSaid' is the law's where the arguments, and the package variables that the reading takes, are together of bulk at most 1048576: NARROWER than '..Said'. Prove '..Said' where nothing that the law and all that it calls make is longer than what came in: it says more and counts as full. Else prove '..UptoSaid'. A law counts once. -/
mutual
def uptoBulk {H : Type} : DataW H → Nat
  | .lit (.string bytes) => bytes.length + 1
  | .lit _ => 1
  | .nil => 1
  | .ptr d => uptoBulk d + 1
  | .slice elems spare => uptoBulkAll elems + uptoBulkAll spare + 1
  | .agg parts => uptoBulkAll parts + 1
  | .iface _ d => uptoBulk d + 1
  | .map entries => uptoBulkEntries entries + 1
  | .held _ => 1
def uptoBulkAll {H : Type} : List (DataW H) → Nat
  | [] => 0
  | d :: r => uptoBulk d + uptoBulkAll r
def uptoBulkEntries {H : Type} : List (Lit × DataW H) → Nat
  | [] => 0
  | x :: r => uptoBulkEntry x + uptoBulkEntries r
def uptoBulkEntry {H : Type} : Lit × DataW H → Nat
  | (.string bytes, d) => bytes.length + uptoBulk d + 1
  | (_, d) => uptoBulk d + 1
 end
def uptoSmall : (H : Type) → List (DataW H) → Bool := fun _ ds => decide (uptoBulkAll ds ≤ 1048576)
def OpenSpec.upto (s : _root_.Go.ChangeSpec) : _root_.Go.OpenSpec := { _root_.Go.OpenSpec.ofChange s with cond := some uptoSmall }

/-- 'voxellaw34.RelightMatchesSpec', WHERE WHAT IT READS IS OF BULK AT MOST 1048576: true; the input reads as it did. -/
def relightMatchesSpecUptoRow : OpenClaim := { program := "ytepcfjbfkedlpaagreatdoor", sum := "ff90511b9fb116410ffe3b8b42c283d49ca5be5500ceb3a092bb4d80c7142363", func := "voxel/voxellaw34.RelightMatchesSpec", spec := "relightMatchesSpec", unfollowed := true, recurses := true, named := ["voxel/material.kinds"], apart := false, laid := [("voxel/material.kinds", laid_voxel_material_kinds)], narrowed := true }
def RelightMatchesSpecUptoSaid : Prop := relightMatchesSpecUptoRow.holds Tryz.pinned (OpenSpec.upto relightMatchesSpecSpec)

/-- 'voxellaw34.RelightIsFull', WHERE WHAT IT READS IS OF BULK AT MOST 1048576: true; the input reads as it did. -/
def relightIsFullUptoRow : OpenClaim := { program := "ytepcfjbfkedlpaagreatdoor", sum := "ff90511b9fb116410ffe3b8b42c283d49ca5be5500ceb3a092bb4d80c7142363", func := "voxel/voxellaw34.RelightIsFull", spec := "relightIsFull", unfollowed := true, recurses := true, named := ["voxel/material.kinds"], apart := false, laid := [("voxel/material.kinds", laid_voxel_material_kinds)], narrowed := true }
def RelightIsFullUptoSaid : Prop := relightIsFullUptoRow.holds Tryz.pinned (OpenSpec.upto relightIsFullSpec)

end Rows
end Go.Proofs.YtepcfjbfkedlpaaGreatDoor
