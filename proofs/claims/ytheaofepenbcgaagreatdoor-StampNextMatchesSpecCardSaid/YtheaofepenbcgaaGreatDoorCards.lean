/-
  DERIVED. GIVEN WITH THE SEED: THE CARDS: each row of YtheaofepenbcgaaGreatDoorRows.lean that lists a variable, with what it lists TIED to the program's text (the seventh form; the later family's looks); each row that meets fmt, with fmt's text TOLD by the authors' own Lean function (tested against real Go, not proved from fmt's source: count such statements apart). THE CARD IS WHAT COUNTS. Prove the row's statement (the work); the ties are given (YtheaofepenbcgaaGreatDoorTie.lean); close each card by the builder's one call (the guide's Derived/Test/ToyasCard.lean, 'card_holds'). Laid BY PROGRAM, IN A SANDBOX (cutbox-door.mjs). By AI agents, Wed Nov 11 2026. No macro, syntax, notation, axiom, sorry.
-/
import Derived.Test.YtheaofepenbcgaaGreatDoorRows
import GoSem.ClaimSeven
namespace Go.Proofs.YtheaofepenbcgaaGreatDoor
namespace Rows

/-- THE TIED CARD OF 'voxellaw24.StampComparesAsSpecified'. -/
def stampComparesAsSpecifiedCard : Claim7 := { stood := { row := stampComparesAsSpecifiedRow, standIns := [], harness := (true, "8876499d230eb0fd6c8639e00a990afc07c2c11a9d87cf5b2cc2f45ab4d42669"), looks := true }, kinds := [], alts := [], laidByText := true, laidKinds := [.data, .data, .data, .data, .sentinel, .sentinel, .pinned], laidTests := true, laidLooks := .later }
def StampComparesAsSpecifiedCardSaid : Prop := Claim7.holds Tryz.pinned (.plain (OpenSpec.ofChange stampComparesAsSpecifiedSpec)) stampComparesAsSpecifiedCard

/-- THE TIED CARD OF 'voxellaw24.StampNextMatchesSpec'. -/
def stampNextMatchesSpecCard : Claim7 := { stood := { row := stampNextMatchesSpecRow, standIns := [], harness := (true, "8876499d230eb0fd6c8639e00a990afc07c2c11a9d87cf5b2cc2f45ab4d42669"), looks := true }, kinds := [], alts := [], laidByText := true, laidKinds := [.data, .data, .data, .data, .sentinel, .sentinel, .pinned], laidTests := true, laidLooks := .later }
def StampNextMatchesSpecCardSaid : Prop := Claim7.holds Tryz.pinned (.plain (OpenSpec.ofChange stampNextMatchesSpecSpec)) stampNextMatchesSpecCard

/-- THE TIED CARD OF 'voxellaw24.StampTextsMatchSpec'. -/
def stampTextsMatchSpecCard : Claim7 := { stood := { row := stampTextsMatchSpecRow, standIns := [], harness := (true, "8876499d230eb0fd6c8639e00a990afc07c2c11a9d87cf5b2cc2f45ab4d42669"), looks := true }, kinds := [], alts := [], laidByText := true, laidKinds := [.data, .data, .data, .data, .sentinel, .sentinel, .pinned], laidTests := true, laidLooks := .later }
def StampTextsMatchSpecCardSaid : Prop := Claim7.holds Tryz.pinned (.plain (OpenSpec.ofChange stampTextsMatchSpecSpec)) stampTextsMatchSpecCard

/-- THE SECOND FORM's CARD OF 'voxellaw24.StampComparesAsSpecified'. -/
def stampComparesAsSpecifiedUptoCard : Claim7 := { stood := { row := stampComparesAsSpecifiedUptoRow, standIns := [], harness := (true, "8876499d230eb0fd6c8639e00a990afc07c2c11a9d87cf5b2cc2f45ab4d42669"), looks := true }, kinds := [], alts := [], laidByText := true, laidKinds := [.data, .data, .data, .data, .sentinel, .sentinel, .pinned], laidTests := true, laidLooks := .later }
def StampComparesAsSpecifiedUptoCardSaid : Prop := Claim7.holds Tryz.pinned (.plain (OpenSpec.upto stampComparesAsSpecifiedSpec)) stampComparesAsSpecifiedUptoCard

/-- THE SECOND FORM's CARD OF 'voxellaw24.StampNextMatchesSpec'. -/
def stampNextMatchesSpecUptoCard : Claim7 := { stood := { row := stampNextMatchesSpecUptoRow, standIns := [], harness := (true, "8876499d230eb0fd6c8639e00a990afc07c2c11a9d87cf5b2cc2f45ab4d42669"), looks := true }, kinds := [], alts := [], laidByText := true, laidKinds := [.data, .data, .data, .data, .sentinel, .sentinel, .pinned], laidTests := true, laidLooks := .later }
def StampNextMatchesSpecUptoCardSaid : Prop := Claim7.holds Tryz.pinned (.plain (OpenSpec.upto stampNextMatchesSpecSpec)) stampNextMatchesSpecUptoCard

/-- THE SECOND FORM's CARD OF 'voxellaw24.StampTextsMatchSpec'. -/
def stampTextsMatchSpecUptoCard : Claim7 := { stood := { row := stampTextsMatchSpecUptoRow, standIns := [], harness := (true, "8876499d230eb0fd6c8639e00a990afc07c2c11a9d87cf5b2cc2f45ab4d42669"), looks := true }, kinds := [], alts := [], laidByText := true, laidKinds := [.data, .data, .data, .data, .sentinel, .sentinel, .pinned], laidTests := true, laidLooks := .later }
def StampTextsMatchSpecUptoCardSaid : Prop := Claim7.holds Tryz.pinned (.plain (OpenSpec.upto stampTextsMatchSpecSpec)) stampTextsMatchSpecUptoCard
end Rows
end Go.Proofs.YtheaofepenbcgaaGreatDoor
