/-
  DERIVED. GIVEN WITH THE SEED: THE CARDS: each row of YtmfckpdcljjdjaaDoorRows.lean that lists a variable, with what it lists TIED to the program's text (the seventh form; the later family's looks); each row that meets fmt, with fmt's text TOLD by the authors' own Lean function (tested against real Go, not proved from fmt's source: count such statements apart). THE CARD IS WHAT COUNTS. Prove the row's statement (the work); the ties are given (YtmfckpdcljjdjaaDoorTie.lean); close each card by the builder's one call (the guide's Derived/Test/ToyasCard.lean, 'card_holds'). Laid BY PROGRAM, IN A SANDBOX (cutbox-door.mjs). By AI agents, Wed Nov 11 2026. No macro, syntax, notation, axiom, sorry.
-/
import Derived.Test.YtmfckpdcljjdjaaDoorRows
import GoSem.ClaimSeven
namespace Go.Proofs.YtmfckpdcljjdjaaDoor
namespace Rows

/-- THE TIED CARD OF 'voxellaw37.FacesMatchSpec'. -/
def facesMatchSpecCard : Claim7 := { stood := { row := facesMatchSpecRow, standIns := [], harness := (true, "2d3acc54017c82e9bdd6873e05d22f7d54a3ec73f494b413b2bd9773ecc65d7e"), looks := false }, kinds := [], alts := [], laidByText := true, laidKinds := [.data], laidTests := true, laidLooks := .later }
def FacesMatchSpecCardSaid : Prop := Claim7.holds Tryd.pinned (.plain (OpenSpec.ofChange facesMatchSpecSpec)) facesMatchSpecCard

/-- THE TIED CARD OF 'voxellaw37.FacesPlansMatchSpec'. -/
def facesPlansMatchSpecCard : Claim7 := { stood := { row := facesPlansMatchSpecRow, standIns := [], harness := (true, "2d3acc54017c82e9bdd6873e05d22f7d54a3ec73f494b413b2bd9773ecc65d7e"), looks := false }, kinds := [], alts := [], laidByText := true, laidKinds := [.data], laidTests := true, laidLooks := .later }
def FacesPlansMatchSpecCardSaid : Prop := Claim7.holds Tryd.pinned (.plain (OpenSpec.ofChange facesPlansMatchSpecSpec)) facesPlansMatchSpecCard

/-- THE TIED CARD OF 'voxellaw37.FacesSeparate'. -/
def facesSeparateCard : Claim7 := { stood := { row := facesSeparateRow, standIns := [], harness := (true, "2d3acc54017c82e9bdd6873e05d22f7d54a3ec73f494b413b2bd9773ecc65d7e"), looks := false }, kinds := [], alts := [], laidByText := true, laidKinds := [.data], laidTests := true, laidLooks := .later }
def FacesSeparateCardSaid : Prop := Claim7.holds Tryd.pinned (.plain (OpenSpec.ofChange facesSeparateSpec)) facesSeparateCard

/-- THE TIED CARD OF 'voxellaw37.FacesBalance'. -/
def facesBalanceCard : Claim7 := { stood := { row := facesBalanceRow, standIns := [], harness := (true, "2d3acc54017c82e9bdd6873e05d22f7d54a3ec73f494b413b2bd9773ecc65d7e"), looks := false }, kinds := [], alts := [], laidByText := true, laidKinds := [.data], laidTests := true, laidLooks := .later }
def FacesBalanceCardSaid : Prop := Claim7.holds Tryd.pinned (.plain (OpenSpec.ofChange facesBalanceSpec)) facesBalanceCard

/-- THE TIED CARD OF 'voxellaw37.FacesSplit'. -/
def facesSplitCard : Claim7 := { stood := { row := facesSplitRow, standIns := [], harness := (true, "2d3acc54017c82e9bdd6873e05d22f7d54a3ec73f494b413b2bd9773ecc65d7e"), looks := false }, kinds := [], alts := [], laidByText := true, laidKinds := [.data], laidTests := true, laidLooks := .later }
def FacesSplitCardSaid : Prop := Claim7.holds Tryd.pinned (.plain (OpenSpec.ofChange facesSplitSpec)) facesSplitCard

/-- THE SECOND FORM's CARD OF 'voxellaw37.FacesMatchSpec'. -/
def facesMatchSpecUptoCard : Claim7 := { stood := { row := facesMatchSpecUptoRow, standIns := [], harness := (true, "2d3acc54017c82e9bdd6873e05d22f7d54a3ec73f494b413b2bd9773ecc65d7e"), looks := false }, kinds := [], alts := [], laidByText := true, laidKinds := [.data], laidTests := true, laidLooks := .later }
def FacesMatchSpecUptoCardSaid : Prop := Claim7.holds Tryd.pinned (.plain (OpenSpec.upto facesMatchSpecSpec)) facesMatchSpecUptoCard

/-- THE SECOND FORM's CARD OF 'voxellaw37.FacesPlansMatchSpec'. -/
def facesPlansMatchSpecUptoCard : Claim7 := { stood := { row := facesPlansMatchSpecUptoRow, standIns := [], harness := (true, "2d3acc54017c82e9bdd6873e05d22f7d54a3ec73f494b413b2bd9773ecc65d7e"), looks := false }, kinds := [], alts := [], laidByText := true, laidKinds := [.data], laidTests := true, laidLooks := .later }
def FacesPlansMatchSpecUptoCardSaid : Prop := Claim7.holds Tryd.pinned (.plain (OpenSpec.upto facesPlansMatchSpecSpec)) facesPlansMatchSpecUptoCard

/-- THE SECOND FORM's CARD OF 'voxellaw37.FacesSeparate'. -/
def facesSeparateUptoCard : Claim7 := { stood := { row := facesSeparateUptoRow, standIns := [], harness := (true, "2d3acc54017c82e9bdd6873e05d22f7d54a3ec73f494b413b2bd9773ecc65d7e"), looks := false }, kinds := [], alts := [], laidByText := true, laidKinds := [.data], laidTests := true, laidLooks := .later }
def FacesSeparateUptoCardSaid : Prop := Claim7.holds Tryd.pinned (.plain (OpenSpec.upto facesSeparateSpec)) facesSeparateUptoCard

/-- THE SECOND FORM's CARD OF 'voxellaw37.FacesBalance'. -/
def facesBalanceUptoCard : Claim7 := { stood := { row := facesBalanceUptoRow, standIns := [], harness := (true, "2d3acc54017c82e9bdd6873e05d22f7d54a3ec73f494b413b2bd9773ecc65d7e"), looks := false }, kinds := [], alts := [], laidByText := true, laidKinds := [.data], laidTests := true, laidLooks := .later }
def FacesBalanceUptoCardSaid : Prop := Claim7.holds Tryd.pinned (.plain (OpenSpec.upto facesBalanceSpec)) facesBalanceUptoCard

/-- THE SECOND FORM's CARD OF 'voxellaw37.FacesSplit'. -/
def facesSplitUptoCard : Claim7 := { stood := { row := facesSplitUptoRow, standIns := [], harness := (true, "2d3acc54017c82e9bdd6873e05d22f7d54a3ec73f494b413b2bd9773ecc65d7e"), looks := false }, kinds := [], alts := [], laidByText := true, laidKinds := [.data], laidTests := true, laidLooks := .later }
def FacesSplitUptoCardSaid : Prop := Claim7.holds Tryd.pinned (.plain (OpenSpec.upto facesSplitSpec)) facesSplitUptoCard
end Rows
end Go.Proofs.YtmfckpdcljjdjaaDoor
