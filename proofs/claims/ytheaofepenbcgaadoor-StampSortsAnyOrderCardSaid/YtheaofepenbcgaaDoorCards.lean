/-
  DERIVED. GIVEN WITH THE SEED: THE CARDS: each row of YtheaofepenbcgaaDoorRows.lean that lists a variable, with what it lists TIED to the program's text (the seventh form; the later family's looks); each row that meets fmt, with fmt's text TOLD by the authors' own Lean function (tested against real Go, not proved from fmt's source: count such statements apart). THE CARD IS WHAT COUNTS. Prove the row's statement (the work); the ties are given (YtheaofepenbcgaaDoorTie.lean); close each card by the builder's one call (the guide's Derived/Test/ToyasCard.lean, 'card_holds'). Laid BY PROGRAM, IN A SANDBOX (cutbox-door.mjs). By AI agents, Wed Nov 11 2026. No macro, syntax, notation, axiom, sorry.
-/
import Derived.Test.YtheaofepenbcgaaDoorRows
import GoSem.ClaimSeven
namespace Go.Proofs.YtheaofepenbcgaaDoor
namespace Rows

/-- THE TIED CARD OF 'voxellaw24.StampOrderIsTotal'. -/
def stampOrderIsTotalCard : Claim7 := { stood := { row := stampOrderIsTotalRow, standIns := [], harness := (true, "206e4100fe37a51171a6ac1df272e5b7a2f5315cf7d40b816d5bc93230599f5a"), looks := true }, kinds := [], alts := [], laidByText := true, laidKinds := [.data, .data, .data, .data, .sentinel, .sentinel, .pinned], laidTests := true, laidLooks := .later }
def StampOrderIsTotalCardSaid : Prop := Claim7.holds Tryd.pinned (.plain (OpenSpec.ofChange stampOrderIsTotalSpec)) stampOrderIsTotalCard

/-- THE TIED CARD OF 'voxellaw24.StampComesLast'. -/
def stampComesLastCard : Claim7 := { stood := { row := stampComesLastRow, standIns := [], harness := (true, "206e4100fe37a51171a6ac1df272e5b7a2f5315cf7d40b816d5bc93230599f5a"), looks := true }, kinds := [], alts := [], laidByText := true, laidKinds := [.data, .data, .data, .data, .sentinel, .sentinel, .pinned], laidTests := true, laidLooks := .later }
def StampComesLastCardSaid : Prop := Claim7.holds Tryd.pinned (.plain (OpenSpec.ofChange stampComesLastSpec)) stampComesLastCard

/-- THE TIED CARD OF 'voxellaw24.StampSortsAnyOrder'. -/
def stampSortsAnyOrderCard : Claim7 := { stood := { row := stampSortsAnyOrderRow, standIns := [], harness := (true, "206e4100fe37a51171a6ac1df272e5b7a2f5315cf7d40b816d5bc93230599f5a"), looks := true }, kinds := [], alts := [], laidByText := true, laidKinds := [.data, .data, .data, .data, .sentinel, .sentinel, .pinned], laidTests := true, laidLooks := .later }
def StampSortsAnyOrderCardSaid : Prop := Claim7.holds Tryd.pinned (.plain (OpenSpec.ofChange stampSortsAnyOrderSpec)) stampSortsAnyOrderCard

/-- THE SECOND FORM's CARD OF 'voxellaw24.StampOrderIsTotal'. -/
def stampOrderIsTotalUptoCard : Claim7 := { stood := { row := stampOrderIsTotalUptoRow, standIns := [], harness := (true, "206e4100fe37a51171a6ac1df272e5b7a2f5315cf7d40b816d5bc93230599f5a"), looks := true }, kinds := [], alts := [], laidByText := true, laidKinds := [.data, .data, .data, .data, .sentinel, .sentinel, .pinned], laidTests := true, laidLooks := .later }
def StampOrderIsTotalUptoCardSaid : Prop := Claim7.holds Tryd.pinned (.plain (OpenSpec.upto stampOrderIsTotalSpec)) stampOrderIsTotalUptoCard

/-- THE SECOND FORM's CARD OF 'voxellaw24.StampComesLast'. -/
def stampComesLastUptoCard : Claim7 := { stood := { row := stampComesLastUptoRow, standIns := [], harness := (true, "206e4100fe37a51171a6ac1df272e5b7a2f5315cf7d40b816d5bc93230599f5a"), looks := true }, kinds := [], alts := [], laidByText := true, laidKinds := [.data, .data, .data, .data, .sentinel, .sentinel, .pinned], laidTests := true, laidLooks := .later }
def StampComesLastUptoCardSaid : Prop := Claim7.holds Tryd.pinned (.plain (OpenSpec.upto stampComesLastSpec)) stampComesLastUptoCard

/-- THE SECOND FORM's CARD OF 'voxellaw24.StampSortsAnyOrder'. -/
def stampSortsAnyOrderUptoCard : Claim7 := { stood := { row := stampSortsAnyOrderUptoRow, standIns := [], harness := (true, "206e4100fe37a51171a6ac1df272e5b7a2f5315cf7d40b816d5bc93230599f5a"), looks := true }, kinds := [], alts := [], laidByText := true, laidKinds := [.data, .data, .data, .data, .sentinel, .sentinel, .pinned], laidTests := true, laidLooks := .later }
def StampSortsAnyOrderUptoCardSaid : Prop := Claim7.holds Tryd.pinned (.plain (OpenSpec.upto stampSortsAnyOrderSpec)) stampSortsAnyOrderUptoCard
end Rows
end Go.Proofs.YtheaofepenbcgaaDoor
