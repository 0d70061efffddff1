/-
  NARROWER THAN 'FOR EVERY INPUT', by the rows' own cells (each row's printed sentence says how): FacesMatchSpec: laid · FacesPlansMatchSpec: laid · FacesSeparate: laid · FacesBalance: laid · FacesSplit: laid.
  DERIVED. THE GIVEN ROWS OF THIS SEAT. 5 by the template 'for every input the law returns true; each argument reads behind the call as it read before'; 0 by the template 'total and deterministic' (their statements: YtmfckpdcljjdjaaDoorTotals.lean).
  GIVEN WITH THE SEED: the statements are not yours to turn. If you find one false, say at which input.
  Laid BY PROGRAM, IN A SANDBOX (cutbox-rows.mjs): the forced cells as the released guide's own fill.sh prints them over the translation 3cf7af61dce717db… (all of the seat's roots in one cut). By AI agents, Wed Nov 11 2026. No macro, syntax, notation, axiom, sorry.
-/
import Derived.Test.YtmfckpdcljjdjaaDoorChecked
import GoSem.Claim
import GoSem.ClaimJoined
import GoSem.ClaimMapViews
import Derived.JoinedTies
import Derived.KernelRfl
namespace Go.Proofs.YtmfckpdcljjdjaaDoor
/- THE CELL 'sum', in the pinned program and in every row, IS THE sha256 OF THE DUMP (.gsa) THAT YtmfckpdcljjdjaaDoorProg.lean LOADS. Nothing in Lean hashes anything: it is a label: what it is worth is what the hold of that sum in a sandbox is worth. -/
noncomputable def Tryd.pinned : Pinned := { name := "ytmfckpdcljjdjaadoor", sum := "3cf7af61dce717db949b7ffd1496bdc3ac3e3a3ce6d77c117f1ff523094590dc", checked := Tryd.checked }
namespace Rows
def none {H : Type} : Left H := { results := [], args := [] }

/- WHAT THE LISTED PACKAGE-LEVEL VARIABLES READ AS WHEN THE CALL BEGINS. Each datum BY PROGRAM (the guide's laid-datum.mjs) off the statement by which the dump's own 'gosem.cut.vars' lays the variable. In a bare row this is a premise. The card (YtmfckpdcljjdjaaDoorCards.lean) ties it to the program's text. -/
def laid_voxel_faces_sides {H : Type} : DataW H := .agg [.agg [.lit (.int .i64 0), .lit (.bool false), .agg [.lit (.int .i64 (-1)), .lit (.int .i64 0), .lit (.int .i64 0)]], .agg [.lit (.int .i64 0), .lit (.bool true), .agg [.lit (.int .i64 1), .lit (.int .i64 0), .lit (.int .i64 0)]], .agg [.lit (.int .i64 1), .lit (.bool false), .agg [.lit (.int .i64 0), .lit (.int .i64 (-1)), .lit (.int .i64 0)]], .agg [.lit (.int .i64 1), .lit (.bool true), .agg [.lit (.int .i64 0), .lit (.int .i64 1), .lit (.int .i64 0)]], .agg [.lit (.int .i64 2), .lit (.bool false), .agg [.lit (.int .i64 0), .lit (.int .i64 0), .lit (.int .i64 (-1))]], .agg [.lit (.int .i64 2), .lit (.bool true), .agg [.lit (.int .i64 0), .lit (.int .i64 0), .lit (.int .i64 1)]]]

/-- 'voxellaw37.FacesMatchSpec': WHATEVER THE INPUT: true; the input reads as it did. -/
def facesMatchSpecSpec : ChangeSpec := { name := "facesMatchSpec", fn := fun _ => fun
  | [d1, d2, d3, d4] => { results := [.lit (.bool true)], args := [d1, d2, d3, d4] }
  | _ => none }
def facesMatchSpecRow : OpenClaim := { program := "ytmfckpdcljjdjaadoor", sum := "3cf7af61dce717db949b7ffd1496bdc3ac3e3a3ce6d77c117f1ff523094590dc", func := "voxel/voxellaw37.FacesMatchSpec", spec := "facesMatchSpec", unfollowed := true, recurses := true, named := ["voxel/faces.sides"], apart := false, laid := [("voxel/faces.sides", laid_voxel_faces_sides)] }
def FacesMatchSpecSaid : Prop := facesMatchSpecRow.holds Tryd.pinned (OpenSpec.ofChange facesMatchSpecSpec)

/-- ITS FALSE NEIGHBOUR: 'it returns false'. Refute it at one input. -/
def facesMatchSpecWrong : ChangeSpec := { name := "facesMatchSpec", fn := fun _ => fun
  | [d1, d2, d3, d4] => { results := [.lit (.bool false)], args := [d1, d2, d3, d4] }
  | _ => none }
def FacesMatchSpecWrongFalsely : Prop := facesMatchSpecRow.holds Tryd.pinned (OpenSpec.ofChange facesMatchSpecWrong)

/-- 'voxellaw37.FacesPlansMatchSpec': WHATEVER THE INPUT: true; the input reads as it did. -/
def facesPlansMatchSpecSpec : ChangeSpec := { name := "facesPlansMatchSpec", fn := fun _ => fun
  | [d1, d2, d3, d4, d5, d6] => { results := [.lit (.bool true)], args := [d1, d2, d3, d4, d5, d6] }
  | _ => none }
def facesPlansMatchSpecRow : OpenClaim := { program := "ytmfckpdcljjdjaadoor", sum := "3cf7af61dce717db949b7ffd1496bdc3ac3e3a3ce6d77c117f1ff523094590dc", func := "voxel/voxellaw37.FacesPlansMatchSpec", spec := "facesPlansMatchSpec", unfollowed := true, recurses := true, named := ["voxel/faces.sides"], apart := false, laid := [("voxel/faces.sides", laid_voxel_faces_sides)] }
def FacesPlansMatchSpecSaid : Prop := facesPlansMatchSpecRow.holds Tryd.pinned (OpenSpec.ofChange facesPlansMatchSpecSpec)

/-- ITS FALSE NEIGHBOUR: 'it returns false'. Refute it at one input. -/
def facesPlansMatchSpecWrong : ChangeSpec := { name := "facesPlansMatchSpec", fn := fun _ => fun
  | [d1, d2, d3, d4, d5, d6] => { results := [.lit (.bool false)], args := [d1, d2, d3, d4, d5, d6] }
  | _ => none }
def FacesPlansMatchSpecWrongFalsely : Prop := facesPlansMatchSpecRow.holds Tryd.pinned (OpenSpec.ofChange facesPlansMatchSpecWrong)

/-- 'voxellaw37.FacesSeparate': WHATEVER THE INPUT: true; the input reads as it did. -/
def facesSeparateSpec : ChangeSpec := { name := "facesSeparate", fn := fun _ => fun
  | [d1, d2, d3, d4, d5, d6] => { results := [.lit (.bool true)], args := [d1, d2, d3, d4, d5, d6] }
  | _ => none }
def facesSeparateRow : OpenClaim := { program := "ytmfckpdcljjdjaadoor", sum := "3cf7af61dce717db949b7ffd1496bdc3ac3e3a3ce6d77c117f1ff523094590dc", func := "voxel/voxellaw37.FacesSeparate", spec := "facesSeparate", unfollowed := true, recurses := true, named := ["voxel/faces.sides"], apart := false, laid := [("voxel/faces.sides", laid_voxel_faces_sides)] }
def FacesSeparateSaid : Prop := facesSeparateRow.holds Tryd.pinned (OpenSpec.ofChange facesSeparateSpec)

/-- ITS FALSE NEIGHBOUR: 'it returns false'. Refute it at one input. -/
def facesSeparateWrong : ChangeSpec := { name := "facesSeparate", fn := fun _ => fun
  | [d1, d2, d3, d4, d5, d6] => { results := [.lit (.bool false)], args := [d1, d2, d3, d4, d5, d6] }
  | _ => none }
def FacesSeparateWrongFalsely : Prop := facesSeparateRow.holds Tryd.pinned (OpenSpec.ofChange facesSeparateWrong)

/-- 'voxellaw37.FacesBalance': WHATEVER THE INPUT: true; the input reads as it did. -/
def facesBalanceSpec : ChangeSpec := { name := "facesBalance", fn := fun _ => fun
  | [d1, d2, d3, d4] => { results := [.lit (.bool true)], args := [d1, d2, d3, d4] }
  | _ => none }
def facesBalanceRow : OpenClaim := { program := "ytmfckpdcljjdjaadoor", sum := "3cf7af61dce717db949b7ffd1496bdc3ac3e3a3ce6d77c117f1ff523094590dc", func := "voxel/voxellaw37.FacesBalance", spec := "facesBalance", unfollowed := true, recurses := true, named := ["voxel/faces.sides"], apart := false, laid := [("voxel/faces.sides", laid_voxel_faces_sides)] }
def FacesBalanceSaid : Prop := facesBalanceRow.holds Tryd.pinned (OpenSpec.ofChange facesBalanceSpec)

/-- ITS FALSE NEIGHBOUR: 'it returns false'. Refute it at one input. -/
def facesBalanceWrong : ChangeSpec := { name := "facesBalance", fn := fun _ => fun
  | [d1, d2, d3, d4] => { results := [.lit (.bool false)], args := [d1, d2, d3, d4] }
  | _ => none }
def FacesBalanceWrongFalsely : Prop := facesBalanceRow.holds Tryd.pinned (OpenSpec.ofChange facesBalanceWrong)

/-- 'voxellaw37.FacesSplit': WHATEVER THE INPUT: true; the input reads as it did. -/
def facesSplitSpec : ChangeSpec := { name := "facesSplit", fn := fun _ => fun
  | [d1, d2, d3, d4, d5, d6, d7] => { results := [.lit (.bool true)], args := [d1, d2, d3, d4, d5, d6, d7] }
  | _ => none }
def facesSplitRow : OpenClaim := { program := "ytmfckpdcljjdjaadoor", sum := "3cf7af61dce717db949b7ffd1496bdc3ac3e3a3ce6d77c117f1ff523094590dc", func := "voxel/voxellaw37.FacesSplit", spec := "facesSplit", unfollowed := true, recurses := true, named := ["voxel/faces.sides"], apart := false, laid := [("voxel/faces.sides", laid_voxel_faces_sides)] }
def FacesSplitSaid : Prop := facesSplitRow.holds Tryd.pinned (OpenSpec.ofChange facesSplitSpec)

/-- ITS FALSE NEIGHBOUR: 'it returns false'. Refute it at one input. -/
def facesSplitWrong : ChangeSpec := { name := "facesSplit", fn := fun _ => fun
  | [d1, d2, d3, d4, d5, d6, d7] => { results := [.lit (.bool false)], args := [d1, d2, d3, d4, d5, d6, d7] }
  | _ => none }
def FacesSplitWrongFalsely : Prop := facesSplitRow.holds Tryd.pinned (OpenSpec.ofChange facesSplitWrong)

/- THE SECOND FORM. 'bulk': how many values and letters a reading holds, each counted each time it is reached (what is shared counts as often as it is met; a slice's spare places count too). A statement '..UptoSaid' is the law's where the arguments, and the package variables that the reading takes, are together of bulk at most 1048576: NARROWER than '..Said'. Prove '..Said' where nothing that the law and all that it calls make is longer than what came in: it says more and counts as full. Else prove '..UptoSaid'. A law counts once. -/
mutual
def uptoBulk {H : Type} : DataW H → Nat
  | .lit (.string bytes) => bytes.length + 1
  | .lit _ => 1
  | .nil => 1
  | .ptr d => uptoBulk d + 1
  | .slice elems spare => uptoBulkAll elems + uptoBulkAll spare + 1
  | .agg parts => uptoBulkAll parts + 1
  | .iface _ d => uptoBulk d + 1
  | .map entries => uptoBulkEntries entries + 1
  | .held _ => 1
def uptoBulkAll {H : Type} : List (DataW H) → Nat
  | [] => 0
  | d :: r => uptoBulk d + uptoBulkAll r
def uptoBulkEntries {H : Type} : List (Lit × DataW H) → Nat
  | [] => 0
  | x :: r => uptoBulkEntry x + uptoBulkEntries r
def uptoBulkEntry {H : Type} : Lit × DataW H → Nat
  | (.string bytes, d) => bytes.length + uptoBulk d + 1
  | (_, d) => uptoBulk d + 1
 end
def uptoSmall : (H : Type) → List (DataW H) → Bool := fun _ ds => decide (uptoBulkAll ds ≤ 1048576)
def OpenSpec.upto (s : _root_.Go.ChangeSpec) : _root_.Go.OpenSpec := { _root_.Go.OpenSpec.ofChange s with cond := some uptoSmall }

/-- 'voxellaw37.FacesMatchSpec', WHERE WHAT IT READS IS OF BULK AT MOST 1048576: true; the input reads as it did. -/
def facesMatchSpecUptoRow : OpenClaim := { program := "ytmfckpdcljjdjaadoor", sum := "3cf7af61dce717db949b7ffd1496bdc3ac3e3a3ce6d77c117f1ff523094590dc", func := "voxel/voxellaw37.FacesMatchSpec", spec := "facesMatchSpec", unfollowed := true, recurses := true, named := ["voxel/faces.sides"], apart := false, laid := [("voxel/faces.sides", laid_voxel_faces_sides)], narrowed := true }
def FacesMatchSpecUptoSaid : Prop := facesMatchSpecUptoRow.holds Tryd.pinned (OpenSpec.upto facesMatchSpecSpec)

/-- 'voxellaw37.FacesPlansMatchSpec', WHERE WHAT IT READS IS OF BULK AT MOST 1048576: true; the input reads as it did. -/
def facesPlansMatchSpecUptoRow : OpenClaim := { program := "ytmfckpdcljjdjaadoor", sum := "3cf7af61dce717db949b7ffd1496bdc3ac3e3a3ce6d77c117f1ff523094590dc", func := "voxel/voxellaw37.FacesPlansMatchSpec", spec := "facesPlansMatchSpec", unfollowed := true, recurses := true, named := ["voxel/faces.sides"], apart := false, laid := [("voxel/faces.sides", laid_voxel_faces_sides)], narrowed := true }
def FacesPlansMatchSpecUptoSaid : Prop := facesPlansMatchSpecUptoRow.holds Tryd.pinned (OpenSpec.upto facesPlansMatchSpecSpec)

/-- 'voxellaw37.FacesSeparate', WHERE WHAT IT READS IS OF BULK AT MOST 1048576: true; the input reads as it did. -/
def facesSeparateUptoRow : OpenClaim := { program := "ytmfckpdcljjdjaadoor", sum := "3cf7af61dce717db949b7ffd1496bdc3ac3e3a3ce6d77c117f1ff523094590dc", func := "voxel/voxellaw37.FacesSeparate", spec := "facesSeparate", unfollowed := true, recurses := true, named := ["voxel/faces.sides"], apart := false, laid := [("voxel/faces.sides", laid_voxel_faces_sides)], narrowed := true }
def FacesSeparateUptoSaid : Prop := facesSeparateUptoRow.holds Tryd.pinned (OpenSpec.upto facesSeparateSpec)

/-- 'voxellaw37.FacesBalance', WHERE WHAT IT READS IS OF BULK AT MOST 1048576: true; the input reads as it did. -/
def facesBalanceUptoRow : OpenClaim := { program := "ytmfckpdcljjdjaadoor", sum := "3cf7af61dce717db949b7ffd1496bdc3ac3e3a3ce6d77c117f1ff523094590dc", func := "voxel/voxellaw37.FacesBalance", spec := "facesBalance", unfollowed := true, recurses := true, named := ["voxel/faces.sides"], apart := false, laid := [("voxel/faces.sides", laid_voxel_faces_sides)], narrowed := true }
def FacesBalanceUptoSaid : Prop := facesBalanceUptoRow.holds Tryd.pinned (OpenSpec.upto facesBalanceSpec)

/-- 'voxellaw37.FacesSplit', WHERE WHAT IT READS IS OF BULK AT MOST 1048576: true; the input reads as it did. -/
def facesSplitUptoRow : OpenClaim := { program := "ytmfckpdcljjdjaadoor", sum := "3cf7af61dce717db949b7ffd1496bdc3ac3e3a3ce6d77c117f1ff523094590dc", func := "voxel/voxellaw37.FacesSplit", spec := "facesSplit", unfollowed := true, recurses := true, named := ["voxel/faces.sides"], apart := false, laid := [("voxel/faces.sides", laid_voxel_faces_sides)], narrowed := true }
def FacesSplitUptoSaid : Prop := facesSplitUptoRow.holds Tryd.pinned (OpenSpec.upto facesSplitSpec)

end Rows
end Go.Proofs.YtmfckpdcljjdjaaDoor
