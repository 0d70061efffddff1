/-
  DERIVED. GIVEN WITH THE SEED: THE CARDS: each row of YtblhndlmgibljaaDoorRows.lean that lists a variable, with what it lists TIED to the program's text (the seventh form; the later family's looks); each row that meets fmt, with fmt's text TOLD by the authors' own Lean function (tested against real Go, not proved from fmt's source: count such statements apart). THE CARD IS WHAT COUNTS. Prove the row's statement (the work); the ties are given (YtblhndlmgibljaaDoorTie.lean); close each card by the builder's one call (the guide's Derived/Test/ToyasCard.lean, 'card_holds'). Laid BY PROGRAM, IN A SANDBOX (cutbox-door.mjs). By AI agents, Wed Nov 11 2026. No macro, syntax, notation, axiom, sorry.
-/
import Derived.Test.YtblhndlmgibljaaDoorRows
import GoSem.ClaimSeven
namespace Go.Proofs.YtblhndlmgibljaaDoor
namespace Rows

/-- THE TIED CARD OF 'voxellaw06.MaterialChecksAsSpecified'. -/
def materialChecksAsSpecifiedCard : Claim7 := { stood := { row := materialChecksAsSpecifiedRow, standIns := [], harness := (true, "5b99cfd04ffd96155c5f917b94db44dc153867f375f91dbfcdfa1d858789f768"), looks := true }, kinds := [], alts := [], laidByText := true, laidKinds := [.data, .data, .data, .data, .sentinel, .sentinel, .widerDeep, .pinned], laidTests := true, laidLooks := .later }
def MaterialChecksAsSpecifiedCardSaid : Prop := Claim7.holds Tryd.pinned (.plain (OpenSpec.ofChange materialChecksAsSpecifiedSpec)) materialChecksAsSpecifiedCard

/-- THE TIED CARD OF 'voxellaw06.MaterialAnswersAsSpecified'. -/
def materialAnswersAsSpecifiedCard : Claim7 := { stood := { row := materialAnswersAsSpecifiedRow, standIns := [], harness := (true, "5b99cfd04ffd96155c5f917b94db44dc153867f375f91dbfcdfa1d858789f768"), looks := true }, kinds := [], alts := [], laidByText := true, laidKinds := [.data, .data, .data, .data, .sentinel, .sentinel, .widerDeep, .pinned], laidTests := true, laidLooks := .later }
def MaterialAnswersAsSpecifiedCardSaid : Prop := Claim7.holds Tryd.pinned (.plain (OpenSpec.ofChange materialAnswersAsSpecifiedSpec)) materialAnswersAsSpecifiedCard

/-- THE TIED CARD OF 'voxellaw06.MaterialParsesAsSpecified'. -/
def materialParsesAsSpecifiedCard : Claim7 := { stood := { row := materialParsesAsSpecifiedRow, standIns := [], harness := (true, "5b99cfd04ffd96155c5f917b94db44dc153867f375f91dbfcdfa1d858789f768"), looks := true }, kinds := [], alts := [], laidByText := true, laidKinds := [.data, .data, .data, .data, .sentinel, .sentinel, .widerDeep, .pinned], laidTests := true, laidLooks := .later }
def MaterialParsesAsSpecifiedCardSaid : Prop := Claim7.holds Tryd.pinned (.plain (OpenSpec.ofChange materialParsesAsSpecifiedSpec)) materialParsesAsSpecifiedCard

/-- THE TIED CARD OF 'voxellaw06.MaterialRoundTrips'. -/
def materialRoundTripsCard : Claim7 := { stood := { row := materialRoundTripsRow, standIns := [], harness := (true, "5b99cfd04ffd96155c5f917b94db44dc153867f375f91dbfcdfa1d858789f768"), looks := true }, kinds := [], alts := [], laidByText := true, laidKinds := [.data, .data, .data, .data, .sentinel, .sentinel, .widerDeep, .pinned], laidTests := true, laidLooks := .later }
def MaterialRoundTripsCardSaid : Prop := Claim7.holds Tryd.pinned (.plain (OpenSpec.ofChange materialRoundTripsSpec)) materialRoundTripsCard

/-- THE TIED CARD OF 'voxellaw06.MaterialIsCanonical'. -/
def materialIsCanonicalCard : Claim7 := { stood := { row := materialIsCanonicalRow, standIns := [], harness := (true, "5b99cfd04ffd96155c5f917b94db44dc153867f375f91dbfcdfa1d858789f768"), looks := true }, kinds := [], alts := [], laidByText := true, laidKinds := [.data, .data, .data, .data, .sentinel, .sentinel, .widerDeep, .pinned], laidTests := true, laidLooks := .later }
def MaterialIsCanonicalCardSaid : Prop := Claim7.holds Tryd.pinned (.plain (OpenSpec.ofChange materialIsCanonicalSpec)) materialIsCanonicalCard

/-- THE TIED CARD OF 'voxellaw06.MaterialNamesAreUnique'. -/
def materialNamesAreUniqueCard : Claim7 := { stood := { row := materialNamesAreUniqueRow, standIns := [], harness := (true, "5b99cfd04ffd96155c5f917b94db44dc153867f375f91dbfcdfa1d858789f768"), looks := true }, kinds := [], alts := [], laidByText := true, laidKinds := [.data, .data, .data, .data, .sentinel, .sentinel, .widerDeep, .pinned], laidTests := true, laidLooks := .later }
def MaterialNamesAreUniqueCardSaid : Prop := Claim7.holds Tryd.pinned (.plain (OpenSpec.ofChange materialNamesAreUniqueSpec)) materialNamesAreUniqueCard

/-- THE SECOND FORM's CARD OF 'voxellaw06.MaterialChecksAsSpecified'. -/
def materialChecksAsSpecifiedUptoCard : Claim7 := { stood := { row := materialChecksAsSpecifiedUptoRow, standIns := [], harness := (true, "5b99cfd04ffd96155c5f917b94db44dc153867f375f91dbfcdfa1d858789f768"), looks := true }, kinds := [], alts := [], laidByText := true, laidKinds := [.data, .data, .data, .data, .sentinel, .sentinel, .widerDeep, .pinned], laidTests := true, laidLooks := .later }
def MaterialChecksAsSpecifiedUptoCardSaid : Prop := Claim7.holds Tryd.pinned (.plain (OpenSpec.upto materialChecksAsSpecifiedSpec)) materialChecksAsSpecifiedUptoCard

/-- THE SECOND FORM's CARD OF 'voxellaw06.MaterialAnswersAsSpecified'. -/
def materialAnswersAsSpecifiedUptoCard : Claim7 := { stood := { row := materialAnswersAsSpecifiedUptoRow, standIns := [], harness := (true, "5b99cfd04ffd96155c5f917b94db44dc153867f375f91dbfcdfa1d858789f768"), looks := true }, kinds := [], alts := [], laidByText := true, laidKinds := [.data, .data, .data, .data, .sentinel, .sentinel, .widerDeep, .pinned], laidTests := true, laidLooks := .later }
def MaterialAnswersAsSpecifiedUptoCardSaid : Prop := Claim7.holds Tryd.pinned (.plain (OpenSpec.upto materialAnswersAsSpecifiedSpec)) materialAnswersAsSpecifiedUptoCard

/-- THE SECOND FORM's CARD OF 'voxellaw06.MaterialParsesAsSpecified'. -/
def materialParsesAsSpecifiedUptoCard : Claim7 := { stood := { row := materialParsesAsSpecifiedUptoRow, standIns := [], harness := (true, "5b99cfd04ffd96155c5f917b94db44dc153867f375f91dbfcdfa1d858789f768"), looks := true }, kinds := [], alts := [], laidByText := true, laidKinds := [.data, .data, .data, .data, .sentinel, .sentinel, .widerDeep, .pinned], laidTests := true, laidLooks := .later }
def MaterialParsesAsSpecifiedUptoCardSaid : Prop := Claim7.holds Tryd.pinned (.plain (OpenSpec.upto materialParsesAsSpecifiedSpec)) materialParsesAsSpecifiedUptoCard

/-- THE SECOND FORM's CARD OF 'voxellaw06.MaterialRoundTrips'. -/
def materialRoundTripsUptoCard : Claim7 := { stood := { row := materialRoundTripsUptoRow, standIns := [], harness := (true, "5b99cfd04ffd96155c5f917b94db44dc153867f375f91dbfcdfa1d858789f768"), looks := true }, kinds := [], alts := [], laidByText := true, laidKinds := [.data, .data, .data, .data, .sentinel, .sentinel, .widerDeep, .pinned], laidTests := true, laidLooks := .later }
def MaterialRoundTripsUptoCardSaid : Prop := Claim7.holds Tryd.pinned (.plain (OpenSpec.upto materialRoundTripsSpec)) materialRoundTripsUptoCard

/-- THE SECOND FORM's CARD OF 'voxellaw06.MaterialIsCanonical'. -/
def materialIsCanonicalUptoCard : Claim7 := { stood := { row := materialIsCanonicalUptoRow, standIns := [], harness := (true, "5b99cfd04ffd96155c5f917b94db44dc153867f375f91dbfcdfa1d858789f768"), looks := true }, kinds := [], alts := [], laidByText := true, laidKinds := [.data, .data, .data, .data, .sentinel, .sentinel, .widerDeep, .pinned], laidTests := true, laidLooks := .later }
def MaterialIsCanonicalUptoCardSaid : Prop := Claim7.holds Tryd.pinned (.plain (OpenSpec.upto materialIsCanonicalSpec)) materialIsCanonicalUptoCard

/-- THE SECOND FORM's CARD OF 'voxellaw06.MaterialNamesAreUnique'. -/
def materialNamesAreUniqueUptoCard : Claim7 := { stood := { row := materialNamesAreUniqueUptoRow, standIns := [], harness := (true, "5b99cfd04ffd96155c5f917b94db44dc153867f375f91dbfcdfa1d858789f768"), looks := true }, kinds := [], alts := [], laidByText := true, laidKinds := [.data, .data, .data, .data, .sentinel, .sentinel, .widerDeep, .pinned], laidTests := true, laidLooks := .later }
def MaterialNamesAreUniqueUptoCardSaid : Prop := Claim7.holds Tryd.pinned (.plain (OpenSpec.upto materialNamesAreUniqueSpec)) materialNamesAreUniqueUptoCard
end Rows
end Go.Proofs.YtblhndlmgibljaaDoor
