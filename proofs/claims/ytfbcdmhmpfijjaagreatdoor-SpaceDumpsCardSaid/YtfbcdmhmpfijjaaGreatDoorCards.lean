/-
  DERIVED. GIVEN WITH THE SEED: THE CARDS: each row of YtfbcdmhmpfijjaaGreatDoorRows.lean that lists a variable, with what it lists TIED to the program's text (the seventh form; the later family's looks); each row that meets fmt, with fmt's text TOLD by the authors' own Lean function (tested against real Go, not proved from fmt's source: count such statements apart). THE CARD IS WHAT COUNTS. Prove the row's statement (the work); the ties are given (YtfbcdmhmpfijjaaGreatDoorTie.lean); close each card by the builder's one call (the guide's Derived/Test/ToyasCard.lean, 'card_holds'). Laid BY PROGRAM, IN A SANDBOX (cutbox-door.mjs). By AI agents, Wed Nov 11 2026. No macro, syntax, notation, axiom, sorry.
-/
import Derived.Test.YtfbcdmhmpfijjaaGreatDoorRows
import GoSem.ClaimSeven
namespace Go.Proofs.YtfbcdmhmpfijjaaGreatDoor
namespace Rows

/-- THE TIED CARD OF 'hearthlaw8.SpaceNews'. -/
def spaceNewsCard : Claim7 := { stood := { row := spaceNewsRow, standIns := [], harness := (true, "51b724288d2c59364e7cf44bda8bf5d8d8a3f34a9ac81ee12421dc279cb36a98"), looks := false }, kinds := [], alts := [], laidByText := true, laidKinds := [.data], laidTests := true, laidLooks := .later }
def SpaceNewsCardSaid : Prop := Claim7.holds Tryz.pinned (.plain (OpenSpec.ofChange spaceNewsSpec)) spaceNewsCard

/-- THE TIED CARD OF 'hearthlaw8.SpaceTakes'. -/
def spaceTakesCard : Claim7 := { stood := { row := spaceTakesRow, standIns := [], harness := (true, "51b724288d2c59364e7cf44bda8bf5d8d8a3f34a9ac81ee12421dc279cb36a98"), looks := false }, kinds := [], alts := [], laidByText := true, laidKinds := [.data], laidTests := true, laidLooks := .later }
def SpaceTakesCardSaid : Prop := Claim7.holds Tryz.pinned (.plain (OpenSpec.ofChange spaceTakesSpec)) spaceTakesCard

/-- THE TIED CARD OF 'hearthlaw8.SpaceWords'. -/
def spaceWordsCard : Claim7 := { stood := { row := spaceWordsRow, standIns := [], harness := (true, "51b724288d2c59364e7cf44bda8bf5d8d8a3f34a9ac81ee12421dc279cb36a98"), looks := false }, kinds := [], alts := [], laidByText := true, laidKinds := [.data], laidTests := true, laidLooks := .later }
def SpaceWordsCardSaid : Prop := Claim7.holds Tryz.pinned (.plain (OpenSpec.ofChange spaceWordsSpec)) spaceWordsCard

/-- THE TIED CARD OF 'hearthlaw8.SpaceFits'. -/
def spaceFitsCard : Claim7 := { stood := { row := spaceFitsRow, standIns := [], harness := (true, "51b724288d2c59364e7cf44bda8bf5d8d8a3f34a9ac81ee12421dc279cb36a98"), looks := false }, kinds := [], alts := [], laidByText := true, laidKinds := [.data], laidTests := true, laidLooks := .later }
def SpaceFitsCardSaid : Prop := Claim7.holds Tryz.pinned (.plain (OpenSpec.ofChange spaceFitsSpec)) spaceFitsCard

/-- THE TIED CARD OF 'hearthlaw8.SpaceFinds'. -/
def spaceFindsCard : Claim7 := { stood := { row := spaceFindsRow, standIns := [], harness := (true, "51b724288d2c59364e7cf44bda8bf5d8d8a3f34a9ac81ee12421dc279cb36a98"), looks := false }, kinds := [], alts := [], laidByText := true, laidKinds := [.data], laidTests := true, laidLooks := .later }
def SpaceFindsCardSaid : Prop := Claim7.holds Tryz.pinned (.plain (OpenSpec.ofChange spaceFindsSpec)) spaceFindsCard

/-- THE TIED CARD OF 'hearthlaw8.SpaceWrongs'. -/
def spaceWrongsCard : Claim7 := { stood := { row := spaceWrongsRow, standIns := [], harness := (true, "51b724288d2c59364e7cf44bda8bf5d8d8a3f34a9ac81ee12421dc279cb36a98"), looks := false }, kinds := [], alts := [], laidByText := true, laidKinds := [.data], laidTests := true, laidLooks := .later }
def SpaceWrongsCardSaid : Prop := Claim7.holds Tryz.pinned (.plain (OpenSpec.ofChange spaceWrongsSpec)) spaceWrongsCard

/-- THE TIED CARD OF 'hearthlaw8.SpaceDumps'. -/
def spaceDumpsCard : Claim7 := { stood := { row := spaceDumpsRow, standIns := [], harness := (true, "51b724288d2c59364e7cf44bda8bf5d8d8a3f34a9ac81ee12421dc279cb36a98"), looks := false }, kinds := [], alts := [], laidByText := true, laidKinds := [.data], laidTests := true, laidLooks := .later }
def SpaceDumpsCardSaid : Prop := Claim7.holds Tryz.pinned (.plain (OpenSpec.ofChange spaceDumpsSpec)) spaceDumpsCard

/-- THE TIED CARD OF 'hearthlaw8.SpaceAll'. -/
def spaceAllCard : Claim7 := { stood := { row := spaceAllRow, standIns := [], harness := (true, "51b724288d2c59364e7cf44bda8bf5d8d8a3f34a9ac81ee12421dc279cb36a98"), looks := false }, kinds := [], alts := [], laidByText := true, laidKinds := [.data], laidTests := true, laidLooks := .later }
def SpaceAllCardSaid : Prop := Claim7.holds Tryz.pinned (.plain (OpenSpec.ofChange spaceAllSpec)) spaceAllCard

/-- THE SECOND FORM's CARD OF 'hearthlaw8.SpaceNews'. -/
def spaceNewsUptoCard : Claim7 := { stood := { row := spaceNewsUptoRow, standIns := [], harness := (true, "51b724288d2c59364e7cf44bda8bf5d8d8a3f34a9ac81ee12421dc279cb36a98"), looks := false }, kinds := [], alts := [], laidByText := true, laidKinds := [.data], laidTests := true, laidLooks := .later }
def SpaceNewsUptoCardSaid : Prop := Claim7.holds Tryz.pinned (.plain (OpenSpec.upto spaceNewsSpec)) spaceNewsUptoCard

/-- THE SECOND FORM's CARD OF 'hearthlaw8.SpaceTakes'. -/
def spaceTakesUptoCard : Claim7 := { stood := { row := spaceTakesUptoRow, standIns := [], harness := (true, "51b724288d2c59364e7cf44bda8bf5d8d8a3f34a9ac81ee12421dc279cb36a98"), looks := false }, kinds := [], alts := [], laidByText := true, laidKinds := [.data], laidTests := true, laidLooks := .later }
def SpaceTakesUptoCardSaid : Prop := Claim7.holds Tryz.pinned (.plain (OpenSpec.upto spaceTakesSpec)) spaceTakesUptoCard

/-- THE SECOND FORM's CARD OF 'hearthlaw8.SpaceWords'. -/
def spaceWordsUptoCard : Claim7 := { stood := { row := spaceWordsUptoRow, standIns := [], harness := (true, "51b724288d2c59364e7cf44bda8bf5d8d8a3f34a9ac81ee12421dc279cb36a98"), looks := false }, kinds := [], alts := [], laidByText := true, laidKinds := [.data], laidTests := true, laidLooks := .later }
def SpaceWordsUptoCardSaid : Prop := Claim7.holds Tryz.pinned (.plain (OpenSpec.upto spaceWordsSpec)) spaceWordsUptoCard

/-- THE SECOND FORM's CARD OF 'hearthlaw8.SpaceFits'. -/
def spaceFitsUptoCard : Claim7 := { stood := { row := spaceFitsUptoRow, standIns := [], harness := (true, "51b724288d2c59364e7cf44bda8bf5d8d8a3f34a9ac81ee12421dc279cb36a98"), looks := false }, kinds := [], alts := [], laidByText := true, laidKinds := [.data], laidTests := true, laidLooks := .later }
def SpaceFitsUptoCardSaid : Prop := Claim7.holds Tryz.pinned (.plain (OpenSpec.upto spaceFitsSpec)) spaceFitsUptoCard

/-- THE SECOND FORM's CARD OF 'hearthlaw8.SpaceFinds'. -/
def spaceFindsUptoCard : Claim7 := { stood := { row := spaceFindsUptoRow, standIns := [], harness := (true, "51b724288d2c59364e7cf44bda8bf5d8d8a3f34a9ac81ee12421dc279cb36a98"), looks := false }, kinds := [], alts := [], laidByText := true, laidKinds := [.data], laidTests := true, laidLooks := .later }
def SpaceFindsUptoCardSaid : Prop := Claim7.holds Tryz.pinned (.plain (OpenSpec.upto spaceFindsSpec)) spaceFindsUptoCard

/-- THE SECOND FORM's CARD OF 'hearthlaw8.SpaceWrongs'. -/
def spaceWrongsUptoCard : Claim7 := { stood := { row := spaceWrongsUptoRow, standIns := [], harness := (true, "51b724288d2c59364e7cf44bda8bf5d8d8a3f34a9ac81ee12421dc279cb36a98"), looks := false }, kinds := [], alts := [], laidByText := true, laidKinds := [.data], laidTests := true, laidLooks := .later }
def SpaceWrongsUptoCardSaid : Prop := Claim7.holds Tryz.pinned (.plain (OpenSpec.upto spaceWrongsSpec)) spaceWrongsUptoCard

/-- THE SECOND FORM's CARD OF 'hearthlaw8.SpaceDumps'. -/
def spaceDumpsUptoCard : Claim7 := { stood := { row := spaceDumpsUptoRow, standIns := [], harness := (true, "51b724288d2c59364e7cf44bda8bf5d8d8a3f34a9ac81ee12421dc279cb36a98"), looks := false }, kinds := [], alts := [], laidByText := true, laidKinds := [.data], laidTests := true, laidLooks := .later }
def SpaceDumpsUptoCardSaid : Prop := Claim7.holds Tryz.pinned (.plain (OpenSpec.upto spaceDumpsSpec)) spaceDumpsUptoCard

/-- THE SECOND FORM's CARD OF 'hearthlaw8.SpaceAll'. -/
def spaceAllUptoCard : Claim7 := { stood := { row := spaceAllUptoRow, standIns := [], harness := (true, "51b724288d2c59364e7cf44bda8bf5d8d8a3f34a9ac81ee12421dc279cb36a98"), looks := false }, kinds := [], alts := [], laidByText := true, laidKinds := [.data], laidTests := true, laidLooks := .later }
def SpaceAllUptoCardSaid : Prop := Claim7.holds Tryz.pinned (.plain (OpenSpec.upto spaceAllSpec)) spaceAllUptoCard
end Rows
end Go.Proofs.YtfbcdmhmpfijjaaGreatDoor
