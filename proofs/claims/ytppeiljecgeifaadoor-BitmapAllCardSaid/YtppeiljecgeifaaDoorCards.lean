/-
  DERIVED. GIVEN WITH THE SEED: THE CARDS: each row of YtppeiljecgeifaaDoorRows.lean that lists a variable, with what it lists TIED to the program's text (the seventh form; the later family's looks); each row that meets fmt, with fmt's text TOLD by the authors' own Lean function (tested against real Go, not proved from fmt's source: count such statements apart). THE CARD IS WHAT COUNTS. Prove the row's statement (the work); the ties are given (YtppeiljecgeifaaDoorTie.lean); close each card by the builder's one call (the guide's Derived/Test/ToyasCard.lean, 'card_holds'). Laid BY PROGRAM, IN A SANDBOX (cutbox-door.mjs). By AI agents, Wed Nov 11 2026. No macro, syntax, notation, axiom, sorry.
-/
import Derived.Test.YtppeiljecgeifaaDoorRows
import GoSem.ClaimSeven
namespace Go.Proofs.YtppeiljecgeifaaDoor
namespace Rows

/-- THE TIED CARD OF 'hearthlaw3.BitmapNews'. -/
def bitmapNewsCard : Claim7 := { stood := { row := bitmapNewsRow, standIns := [], harness := (true, "1be8082aacb95fa4f5c1cc07f119d7551c3f053be50746be23816ba4807e975d"), looks := false }, kinds := [], alts := [], laidByText := true, laidKinds := [.data], laidTests := true, laidLooks := .later }
def BitmapNewsCardSaid : Prop := Claim7.holds Tryd.pinned (.plain (OpenSpec.ofChange bitmapNewsSpec)) bitmapNewsCard

/-- THE TIED CARD OF 'hearthlaw3.BitmapParts'. -/
def bitmapPartsCard : Claim7 := { stood := { row := bitmapPartsRow, standIns := [], harness := (true, "1be8082aacb95fa4f5c1cc07f119d7551c3f053be50746be23816ba4807e975d"), looks := false }, kinds := [], alts := [], laidByText := true, laidKinds := [.data], laidTests := true, laidLooks := .later }
def BitmapPartsCardSaid : Prop := Claim7.holds Tryd.pinned (.plain (OpenSpec.ofChange bitmapPartsSpec)) bitmapPartsCard

/-- THE TIED CARD OF 'hearthlaw3.BitmapWalk'. -/
def bitmapWalkCard : Claim7 := { stood := { row := bitmapWalkRow, standIns := [], harness := (true, "1be8082aacb95fa4f5c1cc07f119d7551c3f053be50746be23816ba4807e975d"), looks := false }, kinds := [], alts := [], laidByText := true, laidKinds := [.data], laidTests := true, laidLooks := .later }
def BitmapWalkCardSaid : Prop := Claim7.holds Tryd.pinned (.plain (OpenSpec.ofChange bitmapWalkSpec)) bitmapWalkCard

/-- THE TIED CARD OF 'hearthlaw3.BitmapGaps'. -/
def bitmapGapsCard : Claim7 := { stood := { row := bitmapGapsRow, standIns := [], harness := (true, "1be8082aacb95fa4f5c1cc07f119d7551c3f053be50746be23816ba4807e975d"), looks := false }, kinds := [], alts := [], laidByText := true, laidKinds := [.data], laidTests := true, laidLooks := .later }
def BitmapGapsCardSaid : Prop := Claim7.holds Tryd.pinned (.plain (OpenSpec.ofChange bitmapGapsSpec)) bitmapGapsCard

/-- THE TIED CARD OF 'hearthlaw3.BitmapLong'. -/
def bitmapLongCard : Claim7 := { stood := { row := bitmapLongRow, standIns := [], harness := (true, "1be8082aacb95fa4f5c1cc07f119d7551c3f053be50746be23816ba4807e975d"), looks := false }, kinds := [], alts := [], laidByText := true, laidKinds := [.data], laidTests := true, laidLooks := .later }
def BitmapLongCardSaid : Prop := Claim7.holds Tryd.pinned (.plain (OpenSpec.ofChange bitmapLongSpec)) bitmapLongCard

/-- THE TIED CARD OF 'hearthlaw3.BitmapOnes'. -/
def bitmapOnesCard : Claim7 := { stood := { row := bitmapOnesRow, standIns := [], harness := (true, "1be8082aacb95fa4f5c1cc07f119d7551c3f053be50746be23816ba4807e975d"), looks := false }, kinds := [], alts := [], laidByText := true, laidKinds := [.data], laidTests := true, laidLooks := .later }
def BitmapOnesCardSaid : Prop := Claim7.holds Tryd.pinned (.plain (OpenSpec.ofChange bitmapOnesSpec)) bitmapOnesCard

/-- THE TIED CARD OF 'hearthlaw3.BitmapCounts'. -/
def bitmapCountsCard : Claim7 := { stood := { row := bitmapCountsRow, standIns := [], harness := (true, "1be8082aacb95fa4f5c1cc07f119d7551c3f053be50746be23816ba4807e975d"), looks := false }, kinds := [], alts := [], laidByText := true, laidKinds := [.data], laidTests := true, laidLooks := .later }
def BitmapCountsCardSaid : Prop := Claim7.holds Tryd.pinned (.plain (OpenSpec.ofChange bitmapCountsSpec)) bitmapCountsCard

/-- THE TIED CARD OF 'hearthlaw3.BitmapLooks'. -/
def bitmapLooksCard : Claim7 := { stood := { row := bitmapLooksRow, standIns := [], harness := (true, "1be8082aacb95fa4f5c1cc07f119d7551c3f053be50746be23816ba4807e975d"), looks := false }, kinds := [], alts := [], laidByText := true, laidKinds := [.data], laidTests := true, laidLooks := .later }
def BitmapLooksCardSaid : Prop := Claim7.holds Tryd.pinned (.plain (OpenSpec.ofChange bitmapLooksSpec)) bitmapLooksCard

/-- THE TIED CARD OF 'hearthlaw3.BitmapAlls'. -/
def bitmapAllsCard : Claim7 := { stood := { row := bitmapAllsRow, standIns := [], harness := (true, "1be8082aacb95fa4f5c1cc07f119d7551c3f053be50746be23816ba4807e975d"), looks := false }, kinds := [], alts := [], laidByText := true, laidKinds := [.data], laidTests := true, laidLooks := .later }
def BitmapAllsCardSaid : Prop := Claim7.holds Tryd.pinned (.plain (OpenSpec.ofChange bitmapAllsSpec)) bitmapAllsCard

/-- THE TIED CARD OF 'hearthlaw3.BitmapAll'. -/
def bitmapAllCard : Claim7 := { stood := { row := bitmapAllRow, standIns := [], harness := (true, "1be8082aacb95fa4f5c1cc07f119d7551c3f053be50746be23816ba4807e975d"), looks := false }, kinds := [], alts := [], laidByText := true, laidKinds := [.data], laidTests := true, laidLooks := .later }
def BitmapAllCardSaid : Prop := Claim7.holds Tryd.pinned (.plain (OpenSpec.ofChange bitmapAllSpec)) bitmapAllCard

/-- THE SECOND FORM's CARD OF 'hearthlaw3.BitmapNews'. -/
def bitmapNewsUptoCard : Claim7 := { stood := { row := bitmapNewsUptoRow, standIns := [], harness := (true, "1be8082aacb95fa4f5c1cc07f119d7551c3f053be50746be23816ba4807e975d"), looks := false }, kinds := [], alts := [], laidByText := true, laidKinds := [.data], laidTests := true, laidLooks := .later }
def BitmapNewsUptoCardSaid : Prop := Claim7.holds Tryd.pinned (.plain (OpenSpec.upto bitmapNewsSpec)) bitmapNewsUptoCard

/-- THE SECOND FORM's CARD OF 'hearthlaw3.BitmapParts'. -/
def bitmapPartsUptoCard : Claim7 := { stood := { row := bitmapPartsUptoRow, standIns := [], harness := (true, "1be8082aacb95fa4f5c1cc07f119d7551c3f053be50746be23816ba4807e975d"), looks := false }, kinds := [], alts := [], laidByText := true, laidKinds := [.data], laidTests := true, laidLooks := .later }
def BitmapPartsUptoCardSaid : Prop := Claim7.holds Tryd.pinned (.plain (OpenSpec.upto bitmapPartsSpec)) bitmapPartsUptoCard

/-- THE SECOND FORM's CARD OF 'hearthlaw3.BitmapWalk'. -/
def bitmapWalkUptoCard : Claim7 := { stood := { row := bitmapWalkUptoRow, standIns := [], harness := (true, "1be8082aacb95fa4f5c1cc07f119d7551c3f053be50746be23816ba4807e975d"), looks := false }, kinds := [], alts := [], laidByText := true, laidKinds := [.data], laidTests := true, laidLooks := .later }
def BitmapWalkUptoCardSaid : Prop := Claim7.holds Tryd.pinned (.plain (OpenSpec.upto bitmapWalkSpec)) bitmapWalkUptoCard

/-- THE SECOND FORM's CARD OF 'hearthlaw3.BitmapGaps'. -/
def bitmapGapsUptoCard : Claim7 := { stood := { row := bitmapGapsUptoRow, standIns := [], harness := (true, "1be8082aacb95fa4f5c1cc07f119d7551c3f053be50746be23816ba4807e975d"), looks := false }, kinds := [], alts := [], laidByText := true, laidKinds := [.data], laidTests := true, laidLooks := .later }
def BitmapGapsUptoCardSaid : Prop := Claim7.holds Tryd.pinned (.plain (OpenSpec.upto bitmapGapsSpec)) bitmapGapsUptoCard

/-- THE SECOND FORM's CARD OF 'hearthlaw3.BitmapLong'. -/
def bitmapLongUptoCard : Claim7 := { stood := { row := bitmapLongUptoRow, standIns := [], harness := (true, "1be8082aacb95fa4f5c1cc07f119d7551c3f053be50746be23816ba4807e975d"), looks := false }, kinds := [], alts := [], laidByText := true, laidKinds := [.data], laidTests := true, laidLooks := .later }
def BitmapLongUptoCardSaid : Prop := Claim7.holds Tryd.pinned (.plain (OpenSpec.upto bitmapLongSpec)) bitmapLongUptoCard

/-- THE SECOND FORM's CARD OF 'hearthlaw3.BitmapOnes'. -/
def bitmapOnesUptoCard : Claim7 := { stood := { row := bitmapOnesUptoRow, standIns := [], harness := (true, "1be8082aacb95fa4f5c1cc07f119d7551c3f053be50746be23816ba4807e975d"), looks := false }, kinds := [], alts := [], laidByText := true, laidKinds := [.data], laidTests := true, laidLooks := .later }
def BitmapOnesUptoCardSaid : Prop := Claim7.holds Tryd.pinned (.plain (OpenSpec.upto bitmapOnesSpec)) bitmapOnesUptoCard

/-- THE SECOND FORM's CARD OF 'hearthlaw3.BitmapCounts'. -/
def bitmapCountsUptoCard : Claim7 := { stood := { row := bitmapCountsUptoRow, standIns := [], harness := (true, "1be8082aacb95fa4f5c1cc07f119d7551c3f053be50746be23816ba4807e975d"), looks := false }, kinds := [], alts := [], laidByText := true, laidKinds := [.data], laidTests := true, laidLooks := .later }
def BitmapCountsUptoCardSaid : Prop := Claim7.holds Tryd.pinned (.plain (OpenSpec.upto bitmapCountsSpec)) bitmapCountsUptoCard

/-- THE SECOND FORM's CARD OF 'hearthlaw3.BitmapLooks'. -/
def bitmapLooksUptoCard : Claim7 := { stood := { row := bitmapLooksUptoRow, standIns := [], harness := (true, "1be8082aacb95fa4f5c1cc07f119d7551c3f053be50746be23816ba4807e975d"), looks := false }, kinds := [], alts := [], laidByText := true, laidKinds := [.data], laidTests := true, laidLooks := .later }
def BitmapLooksUptoCardSaid : Prop := Claim7.holds Tryd.pinned (.plain (OpenSpec.upto bitmapLooksSpec)) bitmapLooksUptoCard

/-- THE SECOND FORM's CARD OF 'hearthlaw3.BitmapAlls'. -/
def bitmapAllsUptoCard : Claim7 := { stood := { row := bitmapAllsUptoRow, standIns := [], harness := (true, "1be8082aacb95fa4f5c1cc07f119d7551c3f053be50746be23816ba4807e975d"), looks := false }, kinds := [], alts := [], laidByText := true, laidKinds := [.data], laidTests := true, laidLooks := .later }
def BitmapAllsUptoCardSaid : Prop := Claim7.holds Tryd.pinned (.plain (OpenSpec.upto bitmapAllsSpec)) bitmapAllsUptoCard

/-- THE SECOND FORM's CARD OF 'hearthlaw3.BitmapAll'. -/
def bitmapAllUptoCard : Claim7 := { stood := { row := bitmapAllUptoRow, standIns := [], harness := (true, "1be8082aacb95fa4f5c1cc07f119d7551c3f053be50746be23816ba4807e975d"), looks := false }, kinds := [], alts := [], laidByText := true, laidKinds := [.data], laidTests := true, laidLooks := .later }
def BitmapAllUptoCardSaid : Prop := Claim7.holds Tryd.pinned (.plain (OpenSpec.upto bitmapAllSpec)) bitmapAllUptoCard
end Rows
end Go.Proofs.YtppeiljecgeifaaDoor
