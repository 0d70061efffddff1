/-
  DERIVED. GIVEN WITH THE SEED: THE CARDS: each row of YtepcfjbfkedlpaaGreatDoorRows.lean that lists a variable, with what it lists TIED to the program's text (the seventh form; the later family's looks); each row that meets fmt, with fmt's text TOLD by the authors' own Lean function (tested against real Go, not proved from fmt's source: count such statements apart). THE CARD IS WHAT COUNTS. Prove the row's statement (the work); the ties are given (YtepcfjbfkedlpaaGreatDoorTie.lean); close each card by the builder's one call (the guide's Derived/Test/ToyasCard.lean, 'card_holds'). Laid BY PROGRAM, IN A SANDBOX (cutbox-door.mjs). By AI agents, Wed Nov 11 2026. No macro, syntax, notation, axiom, sorry.
-/
import Derived.Test.YtepcfjbfkedlpaaGreatDoorRows
import GoSem.ClaimSeven
namespace Go.Proofs.YtepcfjbfkedlpaaGreatDoor
namespace Rows

/-- THE TIED CARD OF 'voxellaw34.RelightMatchesSpec'. -/
def relightMatchesSpecCard : Claim7 := { stood := { row := relightMatchesSpecRow, standIns := [], harness := (true, "76b53b6cbe3988ab82f3b3be2b92116362608dbe962b522dee1f77561afb826f"), looks := false }, kinds := [], alts := [], laidByText := true, laidKinds := [.widerDeep], laidTests := true, laidLooks := .later }
def RelightMatchesSpecCardSaid : Prop := Claim7.holds Tryz.pinned (.plain (OpenSpec.ofChange relightMatchesSpecSpec)) relightMatchesSpecCard

/-- THE TIED CARD OF 'voxellaw34.RelightIsFull'. -/
def relightIsFullCard : Claim7 := { stood := { row := relightIsFullRow, standIns := [], harness := (true, "76b53b6cbe3988ab82f3b3be2b92116362608dbe962b522dee1f77561afb826f"), looks := false }, kinds := [], alts := [], laidByText := true, laidKinds := [.widerDeep], laidTests := true, laidLooks := .later }
def RelightIsFullCardSaid : Prop := Claim7.holds Tryz.pinned (.plain (OpenSpec.ofChange relightIsFullSpec)) relightIsFullCard

/-- THE SECOND FORM's CARD OF 'voxellaw34.RelightMatchesSpec'. -/
def relightMatchesSpecUptoCard : Claim7 := { stood := { row := relightMatchesSpecUptoRow, standIns := [], harness := (true, "76b53b6cbe3988ab82f3b3be2b92116362608dbe962b522dee1f77561afb826f"), looks := false }, kinds := [], alts := [], laidByText := true, laidKinds := [.widerDeep], laidTests := true, laidLooks := .later }
def RelightMatchesSpecUptoCardSaid : Prop := Claim7.holds Tryz.pinned (.plain (OpenSpec.upto relightMatchesSpecSpec)) relightMatchesSpecUptoCard

/-- THE SECOND FORM's CARD OF 'voxellaw34.RelightIsFull'. -/
def relightIsFullUptoCard : Claim7 := { stood := { row := relightIsFullUptoRow, standIns := [], harness := (true, "76b53b6cbe3988ab82f3b3be2b92116362608dbe962b522dee1f77561afb826f"), looks := false }, kinds := [], alts := [], laidByText := true, laidKinds := [.widerDeep], laidTests := true, laidLooks := .later }
def RelightIsFullUptoCardSaid : Prop := Claim7.holds Tryz.pinned (.plain (OpenSpec.upto relightIsFullSpec)) relightIsFullUptoCard
end Rows
end Go.Proofs.YtepcfjbfkedlpaaGreatDoor
