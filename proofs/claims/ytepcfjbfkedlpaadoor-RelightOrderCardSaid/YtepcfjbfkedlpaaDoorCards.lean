/-
  DERIVED. GIVEN WITH THE SEED: THE CARDS: each row of YtepcfjbfkedlpaaDoorRows.lean that lists a variable, with what it lists TIED to the program's text (the seventh form; the later family's looks); each row that meets fmt, with fmt's text TOLD by the authors' own Lean function (tested against real Go, not proved from fmt's source: count such statements apart). THE CARD IS WHAT COUNTS. Prove the row's statement (the work); the ties are given (YtepcfjbfkedlpaaDoorTie.lean); close each card by the builder's one call (the guide's Derived/Test/ToyasCard.lean, 'card_holds'). Laid BY PROGRAM, IN A SANDBOX (cutbox-door.mjs). By AI agents, Wed Nov 11 2026. No macro, syntax, notation, axiom, sorry.
-/
import Derived.Test.YtepcfjbfkedlpaaDoorRows
import GoSem.ClaimSeven
namespace Go.Proofs.YtepcfjbfkedlpaaDoor
namespace Rows

/-- THE TIED CARD OF 'voxellaw34.RelightWorks'. -/
def relightWorksCard : Claim7 := { stood := { row := relightWorksRow, standIns := [], harness := (true, "78eb4871fa419e5ac688e7dc1fcbc34f891c58178f14bf11d800c71083c6e710"), looks := false }, kinds := [], alts := [], laidByText := true, laidKinds := [.widerDeep], laidTests := true, laidLooks := .later }
def RelightWorksCardSaid : Prop := Claim7.holds Tryd.pinned (.plain (OpenSpec.ofChange relightWorksSpec)) relightWorksCard

/-- THE TIED CARD OF 'voxellaw34.RelightUndoes'. -/
def relightUndoesCard : Claim7 := { stood := { row := relightUndoesRow, standIns := [], harness := (true, "78eb4871fa419e5ac688e7dc1fcbc34f891c58178f14bf11d800c71083c6e710"), looks := false }, kinds := [], alts := [], laidByText := true, laidKinds := [.widerDeep], laidTests := true, laidLooks := .later }
def RelightUndoesCardSaid : Prop := Claim7.holds Tryd.pinned (.plain (OpenSpec.ofChange relightUndoesSpec)) relightUndoesCard

/-- THE TIED CARD OF 'voxellaw34.RelightOrder'. -/
def relightOrderCard : Claim7 := { stood := { row := relightOrderRow, standIns := [], harness := (true, "78eb4871fa419e5ac688e7dc1fcbc34f891c58178f14bf11d800c71083c6e710"), looks := false }, kinds := [], alts := [], laidByText := true, laidKinds := [.widerDeep], laidTests := true, laidLooks := .later }
def RelightOrderCardSaid : Prop := Claim7.holds Tryd.pinned (.plain (OpenSpec.ofChange relightOrderSpec)) relightOrderCard

/-- THE TIED CARD OF 'voxellaw34.RelightLimit'. -/
def relightLimitCard : Claim7 := { stood := { row := relightLimitRow, standIns := [], harness := (true, "78eb4871fa419e5ac688e7dc1fcbc34f891c58178f14bf11d800c71083c6e710"), looks := false }, kinds := [], alts := [], laidByText := true, laidKinds := [.widerDeep], laidTests := true, laidLooks := .later }
def RelightLimitCardSaid : Prop := Claim7.holds Tryd.pinned (.plain (OpenSpec.ofChange relightLimitSpec)) relightLimitCard

/-- THE SECOND FORM's CARD OF 'voxellaw34.RelightWorks'. -/
def relightWorksUptoCard : Claim7 := { stood := { row := relightWorksUptoRow, standIns := [], harness := (true, "78eb4871fa419e5ac688e7dc1fcbc34f891c58178f14bf11d800c71083c6e710"), looks := false }, kinds := [], alts := [], laidByText := true, laidKinds := [.widerDeep], laidTests := true, laidLooks := .later }
def RelightWorksUptoCardSaid : Prop := Claim7.holds Tryd.pinned (.plain (OpenSpec.upto relightWorksSpec)) relightWorksUptoCard

/-- THE SECOND FORM's CARD OF 'voxellaw34.RelightUndoes'. -/
def relightUndoesUptoCard : Claim7 := { stood := { row := relightUndoesUptoRow, standIns := [], harness := (true, "78eb4871fa419e5ac688e7dc1fcbc34f891c58178f14bf11d800c71083c6e710"), looks := false }, kinds := [], alts := [], laidByText := true, laidKinds := [.widerDeep], laidTests := true, laidLooks := .later }
def RelightUndoesUptoCardSaid : Prop := Claim7.holds Tryd.pinned (.plain (OpenSpec.upto relightUndoesSpec)) relightUndoesUptoCard

/-- THE SECOND FORM's CARD OF 'voxellaw34.RelightOrder'. -/
def relightOrderUptoCard : Claim7 := { stood := { row := relightOrderUptoRow, standIns := [], harness := (true, "78eb4871fa419e5ac688e7dc1fcbc34f891c58178f14bf11d800c71083c6e710"), looks := false }, kinds := [], alts := [], laidByText := true, laidKinds := [.widerDeep], laidTests := true, laidLooks := .later }
def RelightOrderUptoCardSaid : Prop := Claim7.holds Tryd.pinned (.plain (OpenSpec.upto relightOrderSpec)) relightOrderUptoCard

/-- THE SECOND FORM's CARD OF 'voxellaw34.RelightLimit'. -/
def relightLimitUptoCard : Claim7 := { stood := { row := relightLimitUptoRow, standIns := [], harness := (true, "78eb4871fa419e5ac688e7dc1fcbc34f891c58178f14bf11d800c71083c6e710"), looks := false }, kinds := [], alts := [], laidByText := true, laidKinds := [.widerDeep], laidTests := true, laidLooks := .later }
def RelightLimitUptoCardSaid : Prop := Claim7.holds Tryd.pinned (.plain (OpenSpec.upto relightLimitSpec)) relightLimitUptoCard
end Rows
end Go.Proofs.YtepcfjbfkedlpaaDoor
