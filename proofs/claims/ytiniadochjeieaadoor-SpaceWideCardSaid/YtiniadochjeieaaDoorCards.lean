/-
  DERIVED. GIVEN WITH THE SEED: THE CARDS: each row of YtiniadochjeieaaDoorRows.lean that lists a variable, with what it lists TIED to the program's text (the seventh form; the later family's looks); each row that meets fmt, with fmt's text TOLD by the authors' own Lean function (tested against real Go, not proved from fmt's source: count such statements apart). THE CARD IS WHAT COUNTS. Prove the row's statement (the work); the ties are given (YtiniadochjeieaaDoorTie.lean); close each card by the builder's one call (the guide's Derived/Test/ToyasCard.lean, 'card_holds'). Laid BY PROGRAM, IN A SANDBOX (cutbox-door.mjs). By AI agents, Wed Nov 11 2026. No macro, syntax, notation, axiom, sorry.
-/
import Derived.Test.YtiniadochjeieaaDoorRows
import GoSem.ClaimSeven
namespace Go.Proofs.YtiniadochjeieaaDoor
namespace Rows

/-- THE TIED CARD OF 'hearthlaw8.SpaceOver'. -/
def spaceOverCard : Claim7 := { stood := { row := spaceOverRow, standIns := [], harness := (true, "6ed04738f26d5d32a535cfce782d71fdf5243d4ef23a1f99b920979dafa59d33"), looks := false }, kinds := [], alts := [], laidByText := true, laidKinds := [.data], laidTests := true, laidLooks := .later }
def SpaceOverCardSaid : Prop := Claim7.holds Tryd.pinned (.plain (OpenSpec.ofChange spaceOverSpec)) spaceOverCard

/-- THE TIED CARD OF 'hearthlaw8.SpaceLow'. -/
def spaceLowCard : Claim7 := { stood := { row := spaceLowRow, standIns := [], harness := (true, "6ed04738f26d5d32a535cfce782d71fdf5243d4ef23a1f99b920979dafa59d33"), looks := false }, kinds := [], alts := [], laidByText := true, laidKinds := [.data], laidTests := true, laidLooks := .later }
def SpaceLowCardSaid : Prop := Claim7.holds Tryd.pinned (.plain (OpenSpec.ofChange spaceLowSpec)) spaceLowCard

/-- THE TIED CARD OF 'hearthlaw8.SpaceFills'. -/
def spaceFillsCard : Claim7 := { stood := { row := spaceFillsRow, standIns := [], harness := (true, "6ed04738f26d5d32a535cfce782d71fdf5243d4ef23a1f99b920979dafa59d33"), looks := false }, kinds := [], alts := [], laidByText := true, laidKinds := [.data], laidTests := true, laidLooks := .later }
def SpaceFillsCardSaid : Prop := Claim7.holds Tryd.pinned (.plain (OpenSpec.ofChange spaceFillsSpec)) spaceFillsCard

/-- THE TIED CARD OF 'hearthlaw8.SpaceKept'. -/
def spaceKeptCard : Claim7 := { stood := { row := spaceKeptRow, standIns := [], harness := (true, "6ed04738f26d5d32a535cfce782d71fdf5243d4ef23a1f99b920979dafa59d33"), looks := false }, kinds := [], alts := [], laidByText := true, laidKinds := [.data], laidTests := true, laidLooks := .later }
def SpaceKeptCardSaid : Prop := Claim7.holds Tryd.pinned (.plain (OpenSpec.ofChange spaceKeptSpec)) spaceKeptCard

/-- THE TIED CARD OF 'hearthlaw8.SpaceApart'. -/
def spaceApartCard : Claim7 := { stood := { row := spaceApartRow, standIns := [], harness := (true, "6ed04738f26d5d32a535cfce782d71fdf5243d4ef23a1f99b920979dafa59d33"), looks := false }, kinds := [], alts := [], laidByText := true, laidKinds := [.data], laidTests := true, laidLooks := .later }
def SpaceApartCardSaid : Prop := Claim7.holds Tryd.pinned (.plain (OpenSpec.ofChange spaceApartSpec)) spaceApartCard

/-- THE TIED CARD OF 'hearthlaw8.SpaceTold'. -/
def spaceToldCard : Claim7 := { stood := { row := spaceToldRow, standIns := [], harness := (true, "6ed04738f26d5d32a535cfce782d71fdf5243d4ef23a1f99b920979dafa59d33"), looks := false }, kinds := [], alts := [], laidByText := true, laidKinds := [.data], laidTests := true, laidLooks := .later }
def SpaceToldCardSaid : Prop := Claim7.holds Tryd.pinned (.plain (OpenSpec.ofChange spaceToldSpec)) spaceToldCard

/-- THE TIED CARD OF 'hearthlaw8.SpaceTrue'. -/
def spaceTrueCard : Claim7 := { stood := { row := spaceTrueRow, standIns := [], harness := (true, "6ed04738f26d5d32a535cfce782d71fdf5243d4ef23a1f99b920979dafa59d33"), looks := false }, kinds := [], alts := [], laidByText := true, laidKinds := [.data], laidTests := true, laidLooks := .later }
def SpaceTrueCardSaid : Prop := Claim7.holds Tryd.pinned (.plain (OpenSpec.ofChange spaceTrueSpec)) spaceTrueCard

/-- THE TIED CARD OF 'hearthlaw8.SpaceWide'. -/
def spaceWideCard : Claim7 := { stood := { row := spaceWideRow, standIns := [], harness := (true, "6ed04738f26d5d32a535cfce782d71fdf5243d4ef23a1f99b920979dafa59d33"), looks := false }, kinds := [], alts := [], laidByText := true, laidKinds := [.data], laidTests := true, laidLooks := .later }
def SpaceWideCardSaid : Prop := Claim7.holds Tryd.pinned (.plain (OpenSpec.ofChange spaceWideSpec)) spaceWideCard

/-- THE SECOND FORM's CARD OF 'hearthlaw8.SpaceOver'. -/
def spaceOverUptoCard : Claim7 := { stood := { row := spaceOverUptoRow, standIns := [], harness := (true, "6ed04738f26d5d32a535cfce782d71fdf5243d4ef23a1f99b920979dafa59d33"), looks := false }, kinds := [], alts := [], laidByText := true, laidKinds := [.data], laidTests := true, laidLooks := .later }
def SpaceOverUptoCardSaid : Prop := Claim7.holds Tryd.pinned (.plain (OpenSpec.upto spaceOverSpec)) spaceOverUptoCard

/-- THE SECOND FORM's CARD OF 'hearthlaw8.SpaceLow'. -/
def spaceLowUptoCard : Claim7 := { stood := { row := spaceLowUptoRow, standIns := [], harness := (true, "6ed04738f26d5d32a535cfce782d71fdf5243d4ef23a1f99b920979dafa59d33"), looks := false }, kinds := [], alts := [], laidByText := true, laidKinds := [.data], laidTests := true, laidLooks := .later }
def SpaceLowUptoCardSaid : Prop := Claim7.holds Tryd.pinned (.plain (OpenSpec.upto spaceLowSpec)) spaceLowUptoCard

/-- THE SECOND FORM's CARD OF 'hearthlaw8.SpaceFills'. -/
def spaceFillsUptoCard : Claim7 := { stood := { row := spaceFillsUptoRow, standIns := [], harness := (true, "6ed04738f26d5d32a535cfce782d71fdf5243d4ef23a1f99b920979dafa59d33"), looks := false }, kinds := [], alts := [], laidByText := true, laidKinds := [.data], laidTests := true, laidLooks := .later }
def SpaceFillsUptoCardSaid : Prop := Claim7.holds Tryd.pinned (.plain (OpenSpec.upto spaceFillsSpec)) spaceFillsUptoCard

/-- THE SECOND FORM's CARD OF 'hearthlaw8.SpaceKept'. -/
def spaceKeptUptoCard : Claim7 := { stood := { row := spaceKeptUptoRow, standIns := [], harness := (true, "6ed04738f26d5d32a535cfce782d71fdf5243d4ef23a1f99b920979dafa59d33"), looks := false }, kinds := [], alts := [], laidByText := true, laidKinds := [.data], laidTests := true, laidLooks := .later }
def SpaceKeptUptoCardSaid : Prop := Claim7.holds Tryd.pinned (.plain (OpenSpec.upto spaceKeptSpec)) spaceKeptUptoCard

/-- THE SECOND FORM's CARD OF 'hearthlaw8.SpaceApart'. -/
def spaceApartUptoCard : Claim7 := { stood := { row := spaceApartUptoRow, standIns := [], harness := (true, "6ed04738f26d5d32a535cfce782d71fdf5243d4ef23a1f99b920979dafa59d33"), looks := false }, kinds := [], alts := [], laidByText := true, laidKinds := [.data], laidTests := true, laidLooks := .later }
def SpaceApartUptoCardSaid : Prop := Claim7.holds Tryd.pinned (.plain (OpenSpec.upto spaceApartSpec)) spaceApartUptoCard

/-- THE SECOND FORM's CARD OF 'hearthlaw8.SpaceTold'. -/
def spaceToldUptoCard : Claim7 := { stood := { row := spaceToldUptoRow, standIns := [], harness := (true, "6ed04738f26d5d32a535cfce782d71fdf5243d4ef23a1f99b920979dafa59d33"), looks := false }, kinds := [], alts := [], laidByText := true, laidKinds := [.data], laidTests := true, laidLooks := .later }
def SpaceToldUptoCardSaid : Prop := Claim7.holds Tryd.pinned (.plain (OpenSpec.upto spaceToldSpec)) spaceToldUptoCard

/-- THE SECOND FORM's CARD OF 'hearthlaw8.SpaceTrue'. -/
def spaceTrueUptoCard : Claim7 := { stood := { row := spaceTrueUptoRow, standIns := [], harness := (true, "6ed04738f26d5d32a535cfce782d71fdf5243d4ef23a1f99b920979dafa59d33"), looks := false }, kinds := [], alts := [], laidByText := true, laidKinds := [.data], laidTests := true, laidLooks := .later }
def SpaceTrueUptoCardSaid : Prop := Claim7.holds Tryd.pinned (.plain (OpenSpec.upto spaceTrueSpec)) spaceTrueUptoCard

/-- THE SECOND FORM's CARD OF 'hearthlaw8.SpaceWide'. -/
def spaceWideUptoCard : Claim7 := { stood := { row := spaceWideUptoRow, standIns := [], harness := (true, "6ed04738f26d5d32a535cfce782d71fdf5243d4ef23a1f99b920979dafa59d33"), looks := false }, kinds := [], alts := [], laidByText := true, laidKinds := [.data], laidTests := true, laidLooks := .later }
def SpaceWideUptoCardSaid : Prop := Claim7.holds Tryd.pinned (.plain (OpenSpec.upto spaceWideSpec)) spaceWideUptoCard
end Rows
end Go.Proofs.YtiniadochjeieaaDoor
