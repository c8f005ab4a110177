/-
  NARROWER THAN 'FOR EVERY INPUT', by the rows' own cells (each row's printed sentence says how): BitmapNews: laid · BitmapParts: laid · BitmapWalk: laid · BitmapGaps: laid · BitmapLong: laid · BitmapOnes: laid · BitmapCounts: laid · BitmapLooks: laid · BitmapAlls: laid · BitmapAll: laid.
  DERIVED. THE GIVEN ROWS OF THIS SEAT. 10 by the template 'for every input the law returns true; each argument reads behind the call as it read before'; 0 by the template 'total and deterministic' (their statements: YtppeiljecgeifaaDoorTotals.lean).
  GIVEN WITH THE SEED: the statements are not yours to turn. If you find one false, say at which input.
  Laid BY PROGRAM, IN A SANDBOX (cutbox-rows.mjs): the forced cells as the released guide's own fill.sh prints them over the translation 5d0e1ded05d6d24f… (all of the seat's roots in one cut). By AI agents, Wed Nov 11 2026. No macro, syntax, notation, axiom, sorry.
-/
import Derived.Test.YtppeiljecgeifaaDoorChecked
import GoSem.Claim
import GoSem.ClaimJoined
import GoSem.ClaimMapViews
import Derived.JoinedTies
import Derived.KernelRfl
namespace Go.Proofs.YtppeiljecgeifaaDoor
/- THE CELL 'sum', in the pinned program and in every row, IS THE sha256 OF THE DUMP (.gsa) THAT YtppeiljecgeifaaDoorProg.lean LOADS. Nothing in Lean hashes anything: it is a label: what it is worth is what the hold of that sum in a sandbox is worth. -/
noncomputable def Tryd.pinned : Pinned := { name := "ytppeiljecgeifaadoor", sum := "5d0e1ded05d6d24fb44cd1fd26a26a97b9d738dcbc2797e379dd43a6c78557c3", checked := Tryd.checked }
namespace Rows
def none {H : Type} : Left H := { results := [], args := [] }

/- WHAT THE LISTED PACKAGE-LEVEL VARIABLES READ AS WHEN THE CALL BEGINS. Each datum BY PROGRAM (the guide's laid-datum.mjs) off the statement by which the dump's own 'gosem.cut.vars' lays the variable. In a bare row this is a premise. The card (YtppeiljecgeifaaDoorCards.lean) ties it to the program's text. -/
def laid_math_bits_deBruijn64tab {H : Type} : DataW H := .agg [.lit (.int .u8 0), .lit (.int .u8 1), .lit (.int .u8 56), .lit (.int .u8 2), .lit (.int .u8 57), .lit (.int .u8 49), .lit (.int .u8 28), .lit (.int .u8 3), .lit (.int .u8 61), .lit (.int .u8 58), .lit (.int .u8 42), .lit (.int .u8 50), .lit (.int .u8 38), .lit (.int .u8 29), .lit (.int .u8 17), .lit (.int .u8 4), .lit (.int .u8 62), .lit (.int .u8 47), .lit (.int .u8 59), .lit (.int .u8 36), .lit (.int .u8 45), .lit (.int .u8 43), .lit (.int .u8 51), .lit (.int .u8 22), .lit (.int .u8 53), .lit (.int .u8 39), .lit (.int .u8 33), .lit (.int .u8 30), .lit (.int .u8 24), .lit (.int .u8 18), .lit (.int .u8 12), .lit (.int .u8 5), .lit (.int .u8 63), .lit (.int .u8 55), .lit (.int .u8 48), .lit (.int .u8 27), .lit (.int .u8 60), .lit (.int .u8 41), .lit (.int .u8 37), .lit (.int .u8 16), .lit (.int .u8 46), .lit (.int .u8 35), .lit (.int .u8 44), .lit (.int .u8 21), .lit (.int .u8 52), .lit (.int .u8 32), .lit (.int .u8 23), .lit (.int .u8 11), .lit (.int .u8 54), .lit (.int .u8 26), .lit (.int .u8 40), .lit (.int .u8 15), .lit (.int .u8 34), .lit (.int .u8 20), .lit (.int .u8 31), .lit (.int .u8 10), .lit (.int .u8 25), .lit (.int .u8 14), .lit (.int .u8 19), .lit (.int .u8 9), .lit (.int .u8 13), .lit (.int .u8 8), .lit (.int .u8 7), .lit (.int .u8 6)]

/-- 'hearthlaw3.BitmapNews': WHATEVER THE INPUT: true; the input reads as it did. -/
def bitmapNewsSpec : ChangeSpec := { name := "bitmapNews", fn := fun _ => fun
  | [d] => { results := [.lit (.bool true)], args := [d] }
  | _ => none }
def bitmapNewsRow : OpenClaim := { program := "ytppeiljecgeifaadoor", sum := "5d0e1ded05d6d24fb44cd1fd26a26a97b9d738dcbc2797e379dd43a6c78557c3", func := "hearth/hearthlaw3.BitmapNews", spec := "bitmapNews", unfollowed := true, recurses := true, named := ["math/bits.deBruijn64tab"], apart := false, laid := [("math/bits.deBruijn64tab", laid_math_bits_deBruijn64tab)] }
def BitmapNewsSaid : Prop := bitmapNewsRow.holds Tryd.pinned (OpenSpec.ofChange bitmapNewsSpec)

/-- ITS FALSE NEIGHBOUR: 'it returns false'. Refute it at one input. -/
def bitmapNewsWrong : ChangeSpec := { name := "bitmapNews", fn := fun _ => fun
  | [d] => { results := [.lit (.bool false)], args := [d] }
  | _ => none }
def BitmapNewsWrongFalsely : Prop := bitmapNewsRow.holds Tryd.pinned (OpenSpec.ofChange bitmapNewsWrong)

/-- 'hearthlaw3.BitmapParts': WHATEVER THE INPUT: true; the input reads as it did. -/
def bitmapPartsSpec : ChangeSpec := { name := "bitmapParts", fn := fun _ => fun
  | [d1, d2, d3, d4] => { results := [.lit (.bool true)], args := [d1, d2, d3, d4] }
  | _ => none }
def bitmapPartsRow : OpenClaim := { program := "ytppeiljecgeifaadoor", sum := "5d0e1ded05d6d24fb44cd1fd26a26a97b9d738dcbc2797e379dd43a6c78557c3", func := "hearth/hearthlaw3.BitmapParts", spec := "bitmapParts", named := ["math/bits.deBruijn64tab"], apart := false, laid := [("math/bits.deBruijn64tab", laid_math_bits_deBruijn64tab)] }
def BitmapPartsSaid : Prop := bitmapPartsRow.holds Tryd.pinned (OpenSpec.ofChange bitmapPartsSpec)

/-- ITS FALSE NEIGHBOUR: 'it returns false'. Refute it at one input. -/
def bitmapPartsWrong : ChangeSpec := { name := "bitmapParts", fn := fun _ => fun
  | [d1, d2, d3, d4] => { results := [.lit (.bool false)], args := [d1, d2, d3, d4] }
  | _ => none }
def BitmapPartsWrongFalsely : Prop := bitmapPartsRow.holds Tryd.pinned (OpenSpec.ofChange bitmapPartsWrong)

/-- 'hearthlaw3.BitmapWalk': WHATEVER THE INPUT: true; the input reads as it did. -/
def bitmapWalkSpec : ChangeSpec := { name := "bitmapWalk", fn := fun _ => fun
  | [d1, d2] => { results := [.lit (.bool true)], args := [d1, d2] }
  | _ => none }
def bitmapWalkRow : OpenClaim := { program := "ytppeiljecgeifaadoor", sum := "5d0e1ded05d6d24fb44cd1fd26a26a97b9d738dcbc2797e379dd43a6c78557c3", func := "hearth/hearthlaw3.BitmapWalk", spec := "bitmapWalk", unfollowed := true, recurses := true, named := ["math/bits.deBruijn64tab"], apart := false, laid := [("math/bits.deBruijn64tab", laid_math_bits_deBruijn64tab)] }
def BitmapWalkSaid : Prop := bitmapWalkRow.holds Tryd.pinned (OpenSpec.ofChange bitmapWalkSpec)

/-- ITS FALSE NEIGHBOUR: 'it returns false'. Refute it at one input. -/
def bitmapWalkWrong : ChangeSpec := { name := "bitmapWalk", fn := fun _ => fun
  | [d1, d2] => { results := [.lit (.bool false)], args := [d1, d2] }
  | _ => none }
def BitmapWalkWrongFalsely : Prop := bitmapWalkRow.holds Tryd.pinned (OpenSpec.ofChange bitmapWalkWrong)

/-- 'hearthlaw3.BitmapGaps': WHATEVER THE INPUT: true; the input reads as it did. -/
def bitmapGapsSpec : ChangeSpec := { name := "bitmapGaps", fn := fun _ => fun
  | [d1, d2, d3, d4] => { results := [.lit (.bool true)], args := [d1, d2, d3, d4] }
  | _ => none }
def bitmapGapsRow : OpenClaim := { program := "ytppeiljecgeifaadoor", sum := "5d0e1ded05d6d24fb44cd1fd26a26a97b9d738dcbc2797e379dd43a6c78557c3", func := "hearth/hearthlaw3.BitmapGaps", spec := "bitmapGaps", named := ["math/bits.deBruijn64tab"], apart := false, laid := [("math/bits.deBruijn64tab", laid_math_bits_deBruijn64tab)] }
def BitmapGapsSaid : Prop := bitmapGapsRow.holds Tryd.pinned (OpenSpec.ofChange bitmapGapsSpec)

/-- ITS FALSE NEIGHBOUR: 'it returns false'. Refute it at one input. -/
def bitmapGapsWrong : ChangeSpec := { name := "bitmapGaps", fn := fun _ => fun
  | [d1, d2, d3, d4] => { results := [.lit (.bool false)], args := [d1, d2, d3, d4] }
  | _ => none }
def BitmapGapsWrongFalsely : Prop := bitmapGapsRow.holds Tryd.pinned (OpenSpec.ofChange bitmapGapsWrong)

/-- 'hearthlaw3.BitmapLong': WHATEVER THE INPUT: true; the input reads as it did. -/
def bitmapLongSpec : ChangeSpec := { name := "bitmapLong", fn := fun _ => fun
  | [d] => { results := [.lit (.bool true)], args := [d] }
  | _ => none }
def bitmapLongRow : OpenClaim := { program := "ytppeiljecgeifaadoor", sum := "5d0e1ded05d6d24fb44cd1fd26a26a97b9d738dcbc2797e379dd43a6c78557c3", func := "hearth/hearthlaw3.BitmapLong", spec := "bitmapLong", named := ["math/bits.deBruijn64tab"], apart := false, laid := [("math/bits.deBruijn64tab", laid_math_bits_deBruijn64tab)] }
def BitmapLongSaid : Prop := bitmapLongRow.holds Tryd.pinned (OpenSpec.ofChange bitmapLongSpec)

/-- ITS FALSE NEIGHBOUR: 'it returns false'. Refute it at one input. -/
def bitmapLongWrong : ChangeSpec := { name := "bitmapLong", fn := fun _ => fun
  | [d] => { results := [.lit (.bool false)], args := [d] }
  | _ => none }
def BitmapLongWrongFalsely : Prop := bitmapLongRow.holds Tryd.pinned (OpenSpec.ofChange bitmapLongWrong)

/-- 'hearthlaw3.BitmapOnes': WHATEVER THE INPUT: true; the input reads as it did. -/
def bitmapOnesSpec : ChangeSpec := { name := "bitmapOnes", fn := fun _ => fun
  | [d1, d2, d3] => { results := [.lit (.bool true)], args := [d1, d2, d3] }
  | _ => none }
def bitmapOnesRow : OpenClaim := { program := "ytppeiljecgeifaadoor", sum := "5d0e1ded05d6d24fb44cd1fd26a26a97b9d738dcbc2797e379dd43a6c78557c3", func := "hearth/hearthlaw3.BitmapOnes", spec := "bitmapOnes", unfollowed := true, recurses := true, named := ["math/bits.deBruijn64tab"], apart := false, laid := [("math/bits.deBruijn64tab", laid_math_bits_deBruijn64tab)] }
def BitmapOnesSaid : Prop := bitmapOnesRow.holds Tryd.pinned (OpenSpec.ofChange bitmapOnesSpec)

/-- ITS FALSE NEIGHBOUR: 'it returns false'. Refute it at one input. -/
def bitmapOnesWrong : ChangeSpec := { name := "bitmapOnes", fn := fun _ => fun
  | [d1, d2, d3] => { results := [.lit (.bool false)], args := [d1, d2, d3] }
  | _ => none }
def BitmapOnesWrongFalsely : Prop := bitmapOnesRow.holds Tryd.pinned (OpenSpec.ofChange bitmapOnesWrong)

/-- 'hearthlaw3.BitmapCounts': WHATEVER THE INPUT: true; the input reads as it did. -/
def bitmapCountsSpec : ChangeSpec := { name := "bitmapCounts", fn := fun _ => fun
  | [d1, d2, d3] => { results := [.lit (.bool true)], args := [d1, d2, d3] }
  | _ => none }
def bitmapCountsRow : OpenClaim := { program := "ytppeiljecgeifaadoor", sum := "5d0e1ded05d6d24fb44cd1fd26a26a97b9d738dcbc2797e379dd43a6c78557c3", func := "hearth/hearthlaw3.BitmapCounts", spec := "bitmapCounts", unfollowed := true, recurses := true, named := ["math/bits.deBruijn64tab"], apart := false, laid := [("math/bits.deBruijn64tab", laid_math_bits_deBruijn64tab)] }
def BitmapCountsSaid : Prop := bitmapCountsRow.holds Tryd.pinned (OpenSpec.ofChange bitmapCountsSpec)

/-- ITS FALSE NEIGHBOUR: 'it returns false'. Refute it at one input. -/
def bitmapCountsWrong : ChangeSpec := { name := "bitmapCounts", fn := fun _ => fun
  | [d1, d2, d3] => { results := [.lit (.bool false)], args := [d1, d2, d3] }
  | _ => none }
def BitmapCountsWrongFalsely : Prop := bitmapCountsRow.holds Tryd.pinned (OpenSpec.ofChange bitmapCountsWrong)

/-- 'hearthlaw3.BitmapLooks': WHATEVER THE INPUT: true; the input reads as it did. -/
def bitmapLooksSpec : ChangeSpec := { name := "bitmapLooks", fn := fun _ => fun
  | [d1, d2, d3] => { results := [.lit (.bool true)], args := [d1, d2, d3] }
  | _ => none }
def bitmapLooksRow : OpenClaim := { program := "ytppeiljecgeifaadoor", sum := "5d0e1ded05d6d24fb44cd1fd26a26a97b9d738dcbc2797e379dd43a6c78557c3", func := "hearth/hearthlaw3.BitmapLooks", spec := "bitmapLooks", unfollowed := true, recurses := true, named := ["math/bits.deBruijn64tab"], apart := false, laid := [("math/bits.deBruijn64tab", laid_math_bits_deBruijn64tab)] }
def BitmapLooksSaid : Prop := bitmapLooksRow.holds Tryd.pinned (OpenSpec.ofChange bitmapLooksSpec)

/-- ITS FALSE NEIGHBOUR: 'it returns false'. Refute it at one input. -/
def bitmapLooksWrong : ChangeSpec := { name := "bitmapLooks", fn := fun _ => fun
  | [d1, d2, d3] => { results := [.lit (.bool false)], args := [d1, d2, d3] }
  | _ => none }
def BitmapLooksWrongFalsely : Prop := bitmapLooksRow.holds Tryd.pinned (OpenSpec.ofChange bitmapLooksWrong)

/-- 'hearthlaw3.BitmapAlls': WHATEVER THE INPUT: true; the input reads as it did. -/
def bitmapAllsSpec : ChangeSpec := { name := "bitmapAlls", fn := fun _ => fun
  | [d1, d2, d3] => { results := [.lit (.bool true)], args := [d1, d2, d3] }
  | _ => none }
def bitmapAllsRow : OpenClaim := { program := "ytppeiljecgeifaadoor", sum := "5d0e1ded05d6d24fb44cd1fd26a26a97b9d738dcbc2797e379dd43a6c78557c3", func := "hearth/hearthlaw3.BitmapAlls", spec := "bitmapAlls", unfollowed := true, recurses := true, named := ["math/bits.deBruijn64tab"], apart := false, laid := [("math/bits.deBruijn64tab", laid_math_bits_deBruijn64tab)] }
def BitmapAllsSaid : Prop := bitmapAllsRow.holds Tryd.pinned (OpenSpec.ofChange bitmapAllsSpec)

/-- ITS FALSE NEIGHBOUR: 'it returns false'. Refute it at one input. -/
def bitmapAllsWrong : ChangeSpec := { name := "bitmapAlls", fn := fun _ => fun
  | [d1, d2, d3] => { results := [.lit (.bool false)], args := [d1, d2, d3] }
  | _ => none }
def BitmapAllsWrongFalsely : Prop := bitmapAllsRow.holds Tryd.pinned (OpenSpec.ofChange bitmapAllsWrong)

/-- 'hearthlaw3.BitmapAll': WHATEVER THE INPUT: true; the input reads as it did. -/
def bitmapAllSpec : ChangeSpec := { name := "bitmapAll", fn := fun _ => fun
  | [d1, d2, d3] => { results := [.lit (.bool true)], args := [d1, d2, d3] }
  | _ => none }
def bitmapAllRow : OpenClaim := { program := "ytppeiljecgeifaadoor", sum := "5d0e1ded05d6d24fb44cd1fd26a26a97b9d738dcbc2797e379dd43a6c78557c3", func := "hearth/hearthlaw3.BitmapAll", spec := "bitmapAll", unfollowed := true, recurses := true, named := ["math/bits.deBruijn64tab"], apart := false, laid := [("math/bits.deBruijn64tab", laid_math_bits_deBruijn64tab)] }
def BitmapAllSaid : Prop := bitmapAllRow.holds Tryd.pinned (OpenSpec.ofChange bitmapAllSpec)

/-- ITS FALSE NEIGHBOUR: 'it returns false'. Refute it at one input. -/
def bitmapAllWrong : ChangeSpec := { name := "bitmapAll", fn := fun _ => fun
  | [d1, d2, d3] => { results := [.lit (.bool false)], args := [d1, d2, d3] }
  | _ => none }
def BitmapAllWrongFalsely : Prop := bitmapAllRow.holds Tryd.pinned (OpenSpec.ofChange bitmapAllWrong)

/- THE SECOND FORM. 'bulk': how many values and letters a reading holds, each counted each time it is reached (what is shared counts as often as it is met; a slice's spare places count too). A statement '..UptoSaid' is the law's where the arguments, and the package variables that the reading takes, are together of bulk at most 1048576: NARROWER than '..Said'. Prove '..Said' where nothing that the law and all that it calls make is longer than what came in: it says more and counts as full. Else prove '..UptoSaid'. A law counts once. -/
mutual
def uptoBulk {H : Type} : DataW H → Nat
  | .lit (.string bytes) => bytes.length + 1
  | .lit _ => 1
  | .nil => 1
  | .ptr d => uptoBulk d + 1
  | .slice elems spare => uptoBulkAll elems + uptoBulkAll spare + 1
  | .agg parts => uptoBulkAll parts + 1
  | .iface _ d => uptoBulk d + 1
  | .map entries => uptoBulkEntries entries + 1
  | .held _ => 1
def uptoBulkAll {H : Type} : List (DataW H) → Nat
  | [] => 0
  | d :: r => uptoBulk d + uptoBulkAll r
def uptoBulkEntries {H : Type} : List (Lit × DataW H) → Nat
  | [] => 0
  | x :: r => uptoBulkEntry x + uptoBulkEntries r
def uptoBulkEntry {H : Type} : Lit × DataW H → Nat
  | (.string bytes, d) => bytes.length + uptoBulk d + 1
  | (_, d) => uptoBulk d + 1
 end
def uptoSmall : (H : Type) → List (DataW H) → Bool := fun _ ds => decide (uptoBulkAll ds ≤ 1048576)
def OpenSpec.upto (s : _root_.Go.ChangeSpec) : _root_.Go.OpenSpec := { _root_.Go.OpenSpec.ofChange s with cond := some uptoSmall }

/-- 'hearthlaw3.BitmapNews', WHERE WHAT IT READS IS OF BULK AT MOST 1048576: true; the input reads as it did. -/
def bitmapNewsUptoRow : OpenClaim := { program := "ytppeiljecgeifaadoor", sum := "5d0e1ded05d6d24fb44cd1fd26a26a97b9d738dcbc2797e379dd43a6c78557c3", func := "hearth/hearthlaw3.BitmapNews", spec := "bitmapNews", unfollowed := true, recurses := true, named := ["math/bits.deBruijn64tab"], apart := false, laid := [("math/bits.deBruijn64tab", laid_math_bits_deBruijn64tab)], narrowed := true }
def BitmapNewsUptoSaid : Prop := bitmapNewsUptoRow.holds Tryd.pinned (OpenSpec.upto bitmapNewsSpec)

/-- 'hearthlaw3.BitmapParts', WHERE WHAT IT READS IS OF BULK AT MOST 1048576: true; the input reads as it did. -/
def bitmapPartsUptoRow : OpenClaim := { program := "ytppeiljecgeifaadoor", sum := "5d0e1ded05d6d24fb44cd1fd26a26a97b9d738dcbc2797e379dd43a6c78557c3", func := "hearth/hearthlaw3.BitmapParts", spec := "bitmapParts", named := ["math/bits.deBruijn64tab"], apart := false, laid := [("math/bits.deBruijn64tab", laid_math_bits_deBruijn64tab)], narrowed := true }
def BitmapPartsUptoSaid : Prop := bitmapPartsUptoRow.holds Tryd.pinned (OpenSpec.upto bitmapPartsSpec)

/-- 'hearthlaw3.BitmapWalk', WHERE WHAT IT READS IS OF BULK AT MOST 1048576: true; the input reads as it did. -/
def bitmapWalkUptoRow : OpenClaim := { program := "ytppeiljecgeifaadoor", sum := "5d0e1ded05d6d24fb44cd1fd26a26a97b9d738dcbc2797e379dd43a6c78557c3", func := "hearth/hearthlaw3.BitmapWalk", spec := "bitmapWalk", unfollowed := true, recurses := true, named := ["math/bits.deBruijn64tab"], apart := false, laid := [("math/bits.deBruijn64tab", laid_math_bits_deBruijn64tab)], narrowed := true }
def BitmapWalkUptoSaid : Prop := bitmapWalkUptoRow.holds Tryd.pinned (OpenSpec.upto bitmapWalkSpec)

/-- 'hearthlaw3.BitmapGaps', WHERE WHAT IT READS IS OF BULK AT MOST 1048576: true; the input reads as it did. -/
def bitmapGapsUptoRow : OpenClaim := { program := "ytppeiljecgeifaadoor", sum := "5d0e1ded05d6d24fb44cd1fd26a26a97b9d738dcbc2797e379dd43a6c78557c3", func := "hearth/hearthlaw3.BitmapGaps", spec := "bitmapGaps", named := ["math/bits.deBruijn64tab"], apart := false, laid := [("math/bits.deBruijn64tab", laid_math_bits_deBruijn64tab)], narrowed := true }
def BitmapGapsUptoSaid : Prop := bitmapGapsUptoRow.holds Tryd.pinned (OpenSpec.upto bitmapGapsSpec)

/-- 'hearthlaw3.BitmapLong', WHERE WHAT IT READS IS OF BULK AT MOST 1048576: true; the input reads as it did. -/
def bitmapLongUptoRow : OpenClaim := { program := "ytppeiljecgeifaadoor", sum := "5d0e1ded05d6d24fb44cd1fd26a26a97b9d738dcbc2797e379dd43a6c78557c3", func := "hearth/hearthlaw3.BitmapLong", spec := "bitmapLong", named := ["math/bits.deBruijn64tab"], apart := false, laid := [("math/bits.deBruijn64tab", laid_math_bits_deBruijn64tab)], narrowed := true }
def BitmapLongUptoSaid : Prop := bitmapLongUptoRow.holds Tryd.pinned (OpenSpec.upto bitmapLongSpec)

/-- 'hearthlaw3.BitmapOnes', WHERE WHAT IT READS IS OF BULK AT MOST 1048576: true; the input reads as it did. -/
def bitmapOnesUptoRow : OpenClaim := { program := "ytppeiljecgeifaadoor", sum := "5d0e1ded05d6d24fb44cd1fd26a26a97b9d738dcbc2797e379dd43a6c78557c3", func := "hearth/hearthlaw3.BitmapOnes", spec := "bitmapOnes", unfollowed := true, recurses := true, named := ["math/bits.deBruijn64tab"], apart := false, laid := [("math/bits.deBruijn64tab", laid_math_bits_deBruijn64tab)], narrowed := true }
def BitmapOnesUptoSaid : Prop := bitmapOnesUptoRow.holds Tryd.pinned (OpenSpec.upto bitmapOnesSpec)

/-- 'hearthlaw3.BitmapCounts', WHERE WHAT IT READS IS OF BULK AT MOST 1048576: true; the input reads as it did. -/
def bitmapCountsUptoRow : OpenClaim := { program := "ytppeiljecgeifaadoor", sum := "5d0e1ded05d6d24fb44cd1fd26a26a97b9d738dcbc2797e379dd43a6c78557c3", func := "hearth/hearthlaw3.BitmapCounts", spec := "bitmapCounts", unfollowed := true, recurses := true, named := ["math/bits.deBruijn64tab"], apart := false, laid := [("math/bits.deBruijn64tab", laid_math_bits_deBruijn64tab)], narrowed := true }
def BitmapCountsUptoSaid : Prop := bitmapCountsUptoRow.holds Tryd.pinned (OpenSpec.upto bitmapCountsSpec)

/-- 'hearthlaw3.BitmapLooks', WHERE WHAT IT READS IS OF BULK AT MOST 1048576: true; the input reads as it did. -/
def bitmapLooksUptoRow : OpenClaim := { program := "ytppeiljecgeifaadoor", sum := "5d0e1ded05d6d24fb44cd1fd26a26a97b9d738dcbc2797e379dd43a6c78557c3", func := "hearth/hearthlaw3.BitmapLooks", spec := "bitmapLooks", unfollowed := true, recurses := true, named := ["math/bits.deBruijn64tab"], apart := false, laid := [("math/bits.deBruijn64tab", laid_math_bits_deBruijn64tab)], narrowed := true }
def BitmapLooksUptoSaid : Prop := bitmapLooksUptoRow.holds Tryd.pinned (OpenSpec.upto bitmapLooksSpec)

/-- 'hearthlaw3.BitmapAlls', WHERE WHAT IT READS IS OF BULK AT MOST 1048576: true; the input reads as it did. -/
def bitmapAllsUptoRow : OpenClaim := { program := "ytppeiljecgeifaadoor", sum := "5d0e1ded05d6d24fb44cd1fd26a26a97b9d738dcbc2797e379dd43a6c78557c3", func := "hearth/hearthlaw3.BitmapAlls", spec := "bitmapAlls", unfollowed := true, recurses := true, named := ["math/bits.deBruijn64tab"], apart := false, laid := [("math/bits.deBruijn64tab", laid_math_bits_deBruijn64tab)], narrowed := true }
def BitmapAllsUptoSaid : Prop := bitmapAllsUptoRow.holds Tryd.pinned (OpenSpec.upto bitmapAllsSpec)

/-- 'hearthlaw3.BitmapAll', WHERE WHAT IT READS IS OF BULK AT MOST 1048576: true; the input reads as it did. -/
def bitmapAllUptoRow : OpenClaim := { program := "ytppeiljecgeifaadoor", sum := "5d0e1ded05d6d24fb44cd1fd26a26a97b9d738dcbc2797e379dd43a6c78557c3", func := "hearth/hearthlaw3.BitmapAll", spec := "bitmapAll", unfollowed := true, recurses := true, named := ["math/bits.deBruijn64tab"], apart := false, laid := [("math/bits.deBruijn64tab", laid_math_bits_deBruijn64tab)], narrowed := true }
def BitmapAllUptoSaid : Prop := bitmapAllUptoRow.holds Tryd.pinned (OpenSpec.upto bitmapAllSpec)

end Rows
end Go.Proofs.YtppeiljecgeifaaDoor
