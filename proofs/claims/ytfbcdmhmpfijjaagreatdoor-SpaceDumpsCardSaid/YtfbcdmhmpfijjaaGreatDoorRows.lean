/-
  NARROWER THAN 'FOR EVERY INPUT', by the rows' own cells (each row's printed sentence says how): SpaceNews: laid · SpaceTakes: laid · SpaceWords: laid · SpaceFits: laid · SpaceFinds: laid · SpaceWrongs: laid · SpaceDumps: laid · SpaceAll: laid.
  DERIVED. THE GIVEN ROWS OF THIS SEAT. 8 by the template 'for every input the law returns true; each argument reads behind the call as it read before'; 0 by the template 'total and deterministic' (their statements: YtfbcdmhmpfijjaaGreatDoorTotals.lean).
  GIVEN WITH THE SEED: the statements are not yours to turn. If you find one false, say at which input.
  Laid BY PROGRAM, IN A SANDBOX (cutbox-rows.mjs): the forced cells as the released guide's own fill.sh prints them over the translation 4a77f86f0c96d543… (all of the seat's roots in one cut). By AI agents, Wed Nov 11 2026. No macro, syntax, notation, axiom, sorry.
-/
import Derived.Test.YtfbcdmhmpfijjaaGreatDoorChecked
import GoSem.Claim
import GoSem.ClaimJoined
import GoSem.ClaimMapViews
import Derived.JoinedTies
import Derived.KernelRfl
namespace Go.Proofs.YtfbcdmhmpfijjaaGreatDoor
/- THE CELL 'sum', in the pinned program and in every row, IS THE sha256 OF THE DUMP (.gsa) THAT YtfbcdmhmpfijjaaGreatDoorProg.lean LOADS. Nothing in Lean hashes anything: it is a label: what it is worth is what the hold of that sum in a sandbox is worth. -/
noncomputable def Tryz.pinned : Pinned := { name := "ytfbcdmhmpfijjaagreatdoor", sum := "4a77f86f0c96d54389546b495dc6d3e97333712f17e6dacfb013d4c49535b410", checked := Tryz.checked }
namespace Rows
def none {H : Type} : Left H := { results := [], args := [] }

/- WHAT THE LISTED PACKAGE-LEVEL VARIABLES READ AS WHEN THE CALL BEGINS. Each datum BY PROGRAM (the guide's laid-datum.mjs) off the statement by which the dump's own 'gosem.cut.vars' lays the variable. In a bare row this is a premise. The card (YtfbcdmhmpfijjaaGreatDoorCards.lean) ties it to the program's text. -/
def laid_math_bits_deBruijn64tab {H : Type} : DataW H := .agg [.lit (.int .u8 0), .lit (.int .u8 1), .lit (.int .u8 56), .lit (.int .u8 2), .lit (.int .u8 57), .lit (.int .u8 49), .lit (.int .u8 28), .lit (.int .u8 3), .lit (.int .u8 61), .lit (.int .u8 58), .lit (.int .u8 42), .lit (.int .u8 50), .lit (.int .u8 38), .lit (.int .u8 29), .lit (.int .u8 17), .lit (.int .u8 4), .lit (.int .u8 62), .lit (.int .u8 47), .lit (.int .u8 59), .lit (.int .u8 36), .lit (.int .u8 45), .lit (.int .u8 43), .lit (.int .u8 51), .lit (.int .u8 22), .lit (.int .u8 53), .lit (.int .u8 39), .lit (.int .u8 33), .lit (.int .u8 30), .lit (.int .u8 24), .lit (.int .u8 18), .lit (.int .u8 12), .lit (.int .u8 5), .lit (.int .u8 63), .lit (.int .u8 55), .lit (.int .u8 48), .lit (.int .u8 27), .lit (.int .u8 60), .lit (.int .u8 41), .lit (.int .u8 37), .lit (.int .u8 16), .lit (.int .u8 46), .lit (.int .u8 35), .lit (.int .u8 44), .lit (.int .u8 21), .lit (.int .u8 52), .lit (.int .u8 32), .lit (.int .u8 23), .lit (.int .u8 11), .lit (.int .u8 54), .lit (.int .u8 26), .lit (.int .u8 40), .lit (.int .u8 15), .lit (.int .u8 34), .lit (.int .u8 20), .lit (.int .u8 31), .lit (.int .u8 10), .lit (.int .u8 25), .lit (.int .u8 14), .lit (.int .u8 19), .lit (.int .u8 9), .lit (.int .u8 13), .lit (.int .u8 8), .lit (.int .u8 7), .lit (.int .u8 6)]

/-- 'hearthlaw8.SpaceNews': WHATEVER THE INPUT: true; the input reads as it did. -/
def spaceNewsSpec : ChangeSpec := { name := "spaceNews", fn := fun _ => fun
  | [d] => { results := [.lit (.bool true)], args := [d] }
  | _ => none }
def spaceNewsRow : OpenClaim := { program := "ytfbcdmhmpfijjaagreatdoor", sum := "4a77f86f0c96d54389546b495dc6d3e97333712f17e6dacfb013d4c49535b410", func := "hearth/hearthlaw8.SpaceNews", spec := "spaceNews", unfollowed := true, recurses := true, named := ["math/bits.deBruijn64tab"], apart := false, laid := [("math/bits.deBruijn64tab", laid_math_bits_deBruijn64tab)] }
def SpaceNewsSaid : Prop := spaceNewsRow.holds Tryz.pinned (OpenSpec.ofChange spaceNewsSpec)

/-- ITS FALSE NEIGHBOUR: 'it returns false'. Refute it at one input. -/
def spaceNewsWrong : ChangeSpec := { name := "spaceNews", fn := fun _ => fun
  | [d] => { results := [.lit (.bool false)], args := [d] }
  | _ => none }
def SpaceNewsWrongFalsely : Prop := spaceNewsRow.holds Tryz.pinned (OpenSpec.ofChange spaceNewsWrong)

/-- 'hearthlaw8.SpaceTakes': WHATEVER THE INPUT: true; the input reads as it did. -/
def spaceTakesSpec : ChangeSpec := { name := "spaceTakes", fn := fun _ => fun
  | [d1, d2, d3] => { results := [.lit (.bool true)], args := [d1, d2, d3] }
  | _ => none }
def spaceTakesRow : OpenClaim := { program := "ytfbcdmhmpfijjaagreatdoor", sum := "4a77f86f0c96d54389546b495dc6d3e97333712f17e6dacfb013d4c49535b410", func := "hearth/hearthlaw8.SpaceTakes", spec := "spaceTakes", unfollowed := true, recurses := true, named := ["math/bits.deBruijn64tab"], apart := false, laid := [("math/bits.deBruijn64tab", laid_math_bits_deBruijn64tab)] }
def SpaceTakesSaid : Prop := spaceTakesRow.holds Tryz.pinned (OpenSpec.ofChange spaceTakesSpec)

/-- ITS FALSE NEIGHBOUR: 'it returns false'. Refute it at one input. -/
def spaceTakesWrong : ChangeSpec := { name := "spaceTakes", fn := fun _ => fun
  | [d1, d2, d3] => { results := [.lit (.bool false)], args := [d1, d2, d3] }
  | _ => none }
def SpaceTakesWrongFalsely : Prop := spaceTakesRow.holds Tryz.pinned (OpenSpec.ofChange spaceTakesWrong)

/-- 'hearthlaw8.SpaceWords': WHATEVER THE INPUT: true; the input reads as it did. -/
def spaceWordsSpec : ChangeSpec := { name := "spaceWords", fn := fun _ => fun
  | [d1, d2, d3] => { results := [.lit (.bool true)], args := [d1, d2, d3] }
  | _ => none }
def spaceWordsRow : OpenClaim := { program := "ytfbcdmhmpfijjaagreatdoor", sum := "4a77f86f0c96d54389546b495dc6d3e97333712f17e6dacfb013d4c49535b410", func := "hearth/hearthlaw8.SpaceWords", spec := "spaceWords", unfollowed := true, recurses := true, named := ["math/bits.deBruijn64tab"], apart := false, laid := [("math/bits.deBruijn64tab", laid_math_bits_deBruijn64tab)] }
def SpaceWordsSaid : Prop := spaceWordsRow.holds Tryz.pinned (OpenSpec.ofChange spaceWordsSpec)

/-- ITS FALSE NEIGHBOUR: 'it returns false'. Refute it at one input. -/
def spaceWordsWrong : ChangeSpec := { name := "spaceWords", fn := fun _ => fun
  | [d1, d2, d3] => { results := [.lit (.bool false)], args := [d1, d2, d3] }
  | _ => none }
def SpaceWordsWrongFalsely : Prop := spaceWordsRow.holds Tryz.pinned (OpenSpec.ofChange spaceWordsWrong)

/-- 'hearthlaw8.SpaceFits': WHATEVER THE INPUT: true; the input reads as it did. -/
def spaceFitsSpec : ChangeSpec := { name := "spaceFits", fn := fun _ => fun
  | [d1, d2, d3] => { results := [.lit (.bool true)], args := [d1, d2, d3] }
  | _ => none }
def spaceFitsRow : OpenClaim := { program := "ytfbcdmhmpfijjaagreatdoor", sum := "4a77f86f0c96d54389546b495dc6d3e97333712f17e6dacfb013d4c49535b410", func := "hearth/hearthlaw8.SpaceFits", spec := "spaceFits", unfollowed := true, recurses := true, named := ["math/bits.deBruijn64tab"], apart := false, laid := [("math/bits.deBruijn64tab", laid_math_bits_deBruijn64tab)] }
def SpaceFitsSaid : Prop := spaceFitsRow.holds Tryz.pinned (OpenSpec.ofChange spaceFitsSpec)

/-- ITS FALSE NEIGHBOUR: 'it returns false'. Refute it at one input. -/
def spaceFitsWrong : ChangeSpec := { name := "spaceFits", fn := fun _ => fun
  | [d1, d2, d3] => { results := [.lit (.bool false)], args := [d1, d2, d3] }
  | _ => none }
def SpaceFitsWrongFalsely : Prop := spaceFitsRow.holds Tryz.pinned (OpenSpec.ofChange spaceFitsWrong)

/-- 'hearthlaw8.SpaceFinds': WHATEVER THE INPUT: true; the input reads as it did. -/
def spaceFindsSpec : ChangeSpec := { name := "spaceFinds", fn := fun _ => fun
  | [d1, d2, d3] => { results := [.lit (.bool true)], args := [d1, d2, d3] }
  | _ => none }
def spaceFindsRow : OpenClaim := { program := "ytfbcdmhmpfijjaagreatdoor", sum := "4a77f86f0c96d54389546b495dc6d3e97333712f17e6dacfb013d4c49535b410", func := "hearth/hearthlaw8.SpaceFinds", spec := "spaceFinds", unfollowed := true, recurses := true, named := ["math/bits.deBruijn64tab"], apart := false, laid := [("math/bits.deBruijn64tab", laid_math_bits_deBruijn64tab)] }
def SpaceFindsSaid : Prop := spaceFindsRow.holds Tryz.pinned (OpenSpec.ofChange spaceFindsSpec)

/-- ITS FALSE NEIGHBOUR: 'it returns false'. Refute it at one input. -/
def spaceFindsWrong : ChangeSpec := { name := "spaceFinds", fn := fun _ => fun
  | [d1, d2, d3] => { results := [.lit (.bool false)], args := [d1, d2, d3] }
  | _ => none }
def SpaceFindsWrongFalsely : Prop := spaceFindsRow.holds Tryz.pinned (OpenSpec.ofChange spaceFindsWrong)

/-- 'hearthlaw8.SpaceWrongs': WHATEVER THE INPUT: true; the input reads as it did. -/
def spaceWrongsSpec : ChangeSpec := { name := "spaceWrongs", fn := fun _ => fun
  | [d1, d2, d3] => { results := [.lit (.bool true)], args := [d1, d2, d3] }
  | _ => none }
def spaceWrongsRow : OpenClaim := { program := "ytfbcdmhmpfijjaagreatdoor", sum := "4a77f86f0c96d54389546b495dc6d3e97333712f17e6dacfb013d4c49535b410", func := "hearth/hearthlaw8.SpaceWrongs", spec := "spaceWrongs", unfollowed := true, recurses := true, named := ["math/bits.deBruijn64tab"], apart := false, laid := [("math/bits.deBruijn64tab", laid_math_bits_deBruijn64tab)] }
def SpaceWrongsSaid : Prop := spaceWrongsRow.holds Tryz.pinned (OpenSpec.ofChange spaceWrongsSpec)

/-- ITS FALSE NEIGHBOUR: 'it returns false'. Refute it at one input. -/
def spaceWrongsWrong : ChangeSpec := { name := "spaceWrongs", fn := fun _ => fun
  | [d1, d2, d3] => { results := [.lit (.bool false)], args := [d1, d2, d3] }
  | _ => none }
def SpaceWrongsWrongFalsely : Prop := spaceWrongsRow.holds Tryz.pinned (OpenSpec.ofChange spaceWrongsWrong)

/-- 'hearthlaw8.SpaceDumps': WHATEVER THE INPUT: true; the input reads as it did. -/
def spaceDumpsSpec : ChangeSpec := { name := "spaceDumps", fn := fun _ => fun
  | [d1, d2, d3] => { results := [.lit (.bool true)], args := [d1, d2, d3] }
  | _ => none }
def spaceDumpsRow : OpenClaim := { program := "ytfbcdmhmpfijjaagreatdoor", sum := "4a77f86f0c96d54389546b495dc6d3e97333712f17e6dacfb013d4c49535b410", func := "hearth/hearthlaw8.SpaceDumps", spec := "spaceDumps", unfollowed := true, recurses := true, named := ["math/bits.deBruijn64tab"], apart := false, laid := [("math/bits.deBruijn64tab", laid_math_bits_deBruijn64tab)] }
def SpaceDumpsSaid : Prop := spaceDumpsRow.holds Tryz.pinned (OpenSpec.ofChange spaceDumpsSpec)

/-- ITS FALSE NEIGHBOUR: 'it returns false'. Refute it at one input. -/
def spaceDumpsWrong : ChangeSpec := { name := "spaceDumps", fn := fun _ => fun
  | [d1, d2, d3] => { results := [.lit (.bool false)], args := [d1, d2, d3] }
  | _ => none }
def SpaceDumpsWrongFalsely : Prop := spaceDumpsRow.holds Tryz.pinned (OpenSpec.ofChange spaceDumpsWrong)

/-- 'hearthlaw8.SpaceAll': WHATEVER THE INPUT: true; the input reads as it did. -/
def spaceAllSpec : ChangeSpec := { name := "spaceAll", fn := fun _ => fun
  | [d1, d2, d3] => { results := [.lit (.bool true)], args := [d1, d2, d3] }
  | _ => none }
def spaceAllRow : OpenClaim := { program := "ytfbcdmhmpfijjaagreatdoor", sum := "4a77f86f0c96d54389546b495dc6d3e97333712f17e6dacfb013d4c49535b410", func := "hearth/hearthlaw8.SpaceAll", spec := "spaceAll", unfollowed := true, recurses := true, named := ["math/bits.deBruijn64tab"], apart := false, laid := [("math/bits.deBruijn64tab", laid_math_bits_deBruijn64tab)] }
def SpaceAllSaid : Prop := spaceAllRow.holds Tryz.pinned (OpenSpec.ofChange spaceAllSpec)

/-- ITS FALSE NEIGHBOUR: 'it returns false'. Refute it at one input. -/
def spaceAllWrong : ChangeSpec := { name := "spaceAll", fn := fun _ => fun
  | [d1, d2, d3] => { results := [.lit (.bool false)], args := [d1, d2, d3] }
  | _ => none }
def SpaceAllWrongFalsely : Prop := spaceAllRow.holds Tryz.pinned (OpenSpec.ofChange spaceAllWrong)

/- THE SECOND FORM. 'bulk': how many values and letters a reading holds, each counted each time it is reached (what is shared counts as often as it is met; a slice's spare places count too). A statement '..UptoSaid' is the law's where the arguments, and the package variables that the reading takes, are together of bulk at most 1048576: NARROWER than '..Said'. Prove '..Said' where nothing that the law and all that it calls make is longer than what came in: it says more and counts as full. Else prove '..UptoSaid'. A law counts once. -/
mutual
def uptoBulk {H : Type} : DataW H → Nat
  | .lit (.string bytes) => bytes.length + 1
  | .lit _ => 1
  | .nil => 1
  | .ptr d => uptoBulk d + 1
  | .slice elems spare => uptoBulkAll elems + uptoBulkAll spare + 1
  | .agg parts => uptoBulkAll parts + 1
  | .iface _ d => uptoBulk d + 1
  | .map entries => uptoBulkEntries entries + 1
  | .held _ => 1
def uptoBulkAll {H : Type} : List (DataW H) → Nat
  | [] => 0
  | d :: r => uptoBulk d + uptoBulkAll r
def uptoBulkEntries {H : Type} : List (Lit × DataW H) → Nat
  | [] => 0
  | x :: r => uptoBulkEntry x + uptoBulkEntries r
def uptoBulkEntry {H : Type} : Lit × DataW H → Nat
  | (.string bytes, d) => bytes.length + uptoBulk d + 1
  | (_, d) => uptoBulk d + 1
 end
def uptoSmall : (H : Type) → List (DataW H) → Bool := fun _ ds => decide (uptoBulkAll ds ≤ 1048576)
def OpenSpec.upto (s : _root_.Go.ChangeSpec) : _root_.Go.OpenSpec := { _root_.Go.OpenSpec.ofChange s with cond := some uptoSmall }

/-- 'hearthlaw8.SpaceNews', WHERE WHAT IT READS IS OF BULK AT MOST 1048576: true; the input reads as it did. -/
def spaceNewsUptoRow : OpenClaim := { program := "ytfbcdmhmpfijjaagreatdoor", sum := "4a77f86f0c96d54389546b495dc6d3e97333712f17e6dacfb013d4c49535b410", func := "hearth/hearthlaw8.SpaceNews", spec := "spaceNews", unfollowed := true, recurses := true, named := ["math/bits.deBruijn64tab"], apart := false, laid := [("math/bits.deBruijn64tab", laid_math_bits_deBruijn64tab)], narrowed := true }
def SpaceNewsUptoSaid : Prop := spaceNewsUptoRow.holds Tryz.pinned (OpenSpec.upto spaceNewsSpec)

/-- 'hearthlaw8.SpaceTakes', WHERE WHAT IT READS IS OF BULK AT MOST 1048576: true; the input reads as it did. -/
def spaceTakesUptoRow : OpenClaim := { program := "ytfbcdmhmpfijjaagreatdoor", sum := "4a77f86f0c96d54389546b495dc6d3e97333712f17e6dacfb013d4c49535b410", func := "hearth/hearthlaw8.SpaceTakes", spec := "spaceTakes", unfollowed := true, recurses := true, named := ["math/bits.deBruijn64tab"], apart := false, laid := [("math/bits.deBruijn64tab", laid_math_bits_deBruijn64tab)], narrowed := true }
def SpaceTakesUptoSaid : Prop := spaceTakesUptoRow.holds Tryz.pinned (OpenSpec.upto spaceTakesSpec)

/-- 'hearthlaw8.SpaceWords', WHERE WHAT IT READS IS OF BULK AT MOST 1048576: true; the input reads as it did. -/
def spaceWordsUptoRow : OpenClaim := { program := "ytfbcdmhmpfijjaagreatdoor", sum := "4a77f86f0c96d54389546b495dc6d3e97333712f17e6dacfb013d4c49535b410", func := "hearth/hearthlaw8.SpaceWords", spec := "spaceWords", unfollowed := true, recurses := true, named := ["math/bits.deBruijn64tab"], apart := false, laid := [("math/bits.deBruijn64tab", laid_math_bits_deBruijn64tab)], narrowed := true }
def SpaceWordsUptoSaid : Prop := spaceWordsUptoRow.holds Tryz.pinned (OpenSpec.upto spaceWordsSpec)

/-- 'hearthlaw8.SpaceFits', WHERE WHAT IT READS IS OF BULK AT MOST 1048576: true; the input reads as it did. -/
def spaceFitsUptoRow : OpenClaim := { program := "ytfbcdmhmpfijjaagreatdoor", sum := "4a77f86f0c96d54389546b495dc6d3e97333712f17e6dacfb013d4c49535b410", func := "hearth/hearthlaw8.SpaceFits", spec := "spaceFits", unfollowed := true, recurses := true, named := ["math/bits.deBruijn64tab"], apart := false, laid := [("math/bits.deBruijn64tab", laid_math_bits_deBruijn64tab)], narrowed := true }
def SpaceFitsUptoSaid : Prop := spaceFitsUptoRow.holds Tryz.pinned (OpenSpec.upto spaceFitsSpec)

/-- 'hearthlaw8.SpaceFinds', WHERE WHAT IT READS IS OF BULK AT MOST 1048576: true; the input reads as it did. -/
def spaceFindsUptoRow : OpenClaim := { program := "ytfbcdmhmpfijjaagreatdoor", sum := "4a77f86f0c96d54389546b495dc6d3e97333712f17e6dacfb013d4c49535b410", func := "hearth/hearthlaw8.SpaceFinds", spec := "spaceFinds", unfollowed := true, recurses := true, named := ["math/bits.deBruijn64tab"], apart := false, laid := [("math/bits.deBruijn64tab", laid_math_bits_deBruijn64tab)], narrowed := true }
def SpaceFindsUptoSaid : Prop := spaceFindsUptoRow.holds Tryz.pinned (OpenSpec.upto spaceFindsSpec)

/-- 'hearthlaw8.SpaceWrongs', WHERE WHAT IT READS IS OF BULK AT MOST 1048576: true; the input reads as it did. -/
def spaceWrongsUptoRow : OpenClaim := { program := "ytfbcdmhmpfijjaagreatdoor", sum := "4a77f86f0c96d54389546b495dc6d3e97333712f17e6dacfb013d4c49535b410", func := "hearth/hearthlaw8.SpaceWrongs", spec := "spaceWrongs", unfollowed := true, recurses := true, named := ["math/bits.deBruijn64tab"], apart := false, laid := [("math/bits.deBruijn64tab", laid_math_bits_deBruijn64tab)], narrowed := true }
def SpaceWrongsUptoSaid : Prop := spaceWrongsUptoRow.holds Tryz.pinned (OpenSpec.upto spaceWrongsSpec)

/-- 'hearthlaw8.SpaceDumps', WHERE WHAT IT READS IS OF BULK AT MOST 1048576: true; the input reads as it did. -/
def spaceDumpsUptoRow : OpenClaim := { program := "ytfbcdmhmpfijjaagreatdoor", sum := "4a77f86f0c96d54389546b495dc6d3e97333712f17e6dacfb013d4c49535b410", func := "hearth/hearthlaw8.SpaceDumps", spec := "spaceDumps", unfollowed := true, recurses := true, named := ["math/bits.deBruijn64tab"], apart := false, laid := [("math/bits.deBruijn64tab", laid_math_bits_deBruijn64tab)], narrowed := true }
def SpaceDumpsUptoSaid : Prop := spaceDumpsUptoRow.holds Tryz.pinned (OpenSpec.upto spaceDumpsSpec)

/-- 'hearthlaw8.SpaceAll', WHERE WHAT IT READS IS OF BULK AT MOST 1048576: true; the input reads as it did. -/
def spaceAllUptoRow : OpenClaim := { program := "ytfbcdmhmpfijjaagreatdoor", sum := "4a77f86f0c96d54389546b495dc6d3e97333712f17e6dacfb013d4c49535b410", func := "hearth/hearthlaw8.SpaceAll", spec := "spaceAll", unfollowed := true, recurses := true, named := ["math/bits.deBruijn64tab"], apart := false, laid := [("math/bits.deBruijn64tab", laid_math_bits_deBruijn64tab)], narrowed := true }
def SpaceAllUptoSaid : Prop := spaceAllUptoRow.holds Tryz.pinned (OpenSpec.upto spaceAllSpec)

end Rows
end Go.Proofs.YtfbcdmhmpfijjaaGreatDoor
