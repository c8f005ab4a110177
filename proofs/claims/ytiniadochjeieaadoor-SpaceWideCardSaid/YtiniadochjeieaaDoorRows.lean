/-
  NARROWER THAN 'FOR EVERY INPUT', by the rows' own cells (each row's printed sentence says how): SpaceOver: laid · SpaceLow: laid · SpaceFills: laid · SpaceKept: laid · SpaceApart: laid · SpaceTold: laid · SpaceTrue: laid · SpaceWide: laid.
  DERIVED. THE GIVEN ROWS OF THIS SEAT. 8 by the template 'for every input the law returns true; each argument reads behind the call as it read before'; 0 by the template 'total and deterministic' (their statements: YtiniadochjeieaaDoorTotals.lean).
  GIVEN WITH THE SEED: the statements are not yours to turn. If you find one false, say at which input.
  Laid BY PROGRAM, IN A SANDBOX (cutbox-rows.mjs): the forced cells as the released guide's own fill.sh prints them over the translation c42441813aec1895… (all of the seat's roots in one cut). By AI agents, Wed Nov 11 2026. No macro, syntax, notation, axiom, sorry.
-/
import Derived.Test.YtiniadochjeieaaDoorChecked
import GoSem.Claim
import GoSem.ClaimJoined
import GoSem.ClaimMapViews
import Derived.JoinedTies
import Derived.KernelRfl
namespace Go.Proofs.YtiniadochjeieaaDoor
/- THE CELL 'sum', in the pinned program and in every row, IS THE sha256 OF THE DUMP (.gsa) THAT YtiniadochjeieaaDoorProg.lean LOADS. Nothing in Lean hashes anything: it is a label: what it is worth is what the hold of that sum in a sandbox is worth. -/
noncomputable def Tryd.pinned : Pinned := { name := "ytiniadochjeieaadoor", sum := "c42441813aec1895df21378bb06671d0ac9760c910dc984247832d61a92c9222", checked := Tryd.checked }
namespace Rows
def none {H : Type} : Left H := { results := [], args := [] }

/- WHAT THE LISTED PACKAGE-LEVEL VARIABLES READ AS WHEN THE CALL BEGINS. Each datum BY PROGRAM (the guide's laid-datum.mjs) off the statement by which the dump's own 'gosem.cut.vars' lays the variable. In a bare row this is a premise. The card (YtiniadochjeieaaDoorCards.lean) ties it to the program's text. -/
def laid_math_bits_deBruijn64tab {H : Type} : DataW H := .agg [.lit (.int .u8 0), .lit (.int .u8 1), .lit (.int .u8 56), .lit (.int .u8 2), .lit (.int .u8 57), .lit (.int .u8 49), .lit (.int .u8 28), .lit (.int .u8 3), .lit (.int .u8 61), .lit (.int .u8 58), .lit (.int .u8 42), .lit (.int .u8 50), .lit (.int .u8 38), .lit (.int .u8 29), .lit (.int .u8 17), .lit (.int .u8 4), .lit (.int .u8 62), .lit (.int .u8 47), .lit (.int .u8 59), .lit (.int .u8 36), .lit (.int .u8 45), .lit (.int .u8 43), .lit (.int .u8 51), .lit (.int .u8 22), .lit (.int .u8 53), .lit (.int .u8 39), .lit (.int .u8 33), .lit (.int .u8 30), .lit (.int .u8 24), .lit (.int .u8 18), .lit (.int .u8 12), .lit (.int .u8 5), .lit (.int .u8 63), .lit (.int .u8 55), .lit (.int .u8 48), .lit (.int .u8 27), .lit (.int .u8 60), .lit (.int .u8 41), .lit (.int .u8 37), .lit (.int .u8 16), .lit (.int .u8 46), .lit (.int .u8 35), .lit (.int .u8 44), .lit (.int .u8 21), .lit (.int .u8 52), .lit (.int .u8 32), .lit (.int .u8 23), .lit (.int .u8 11), .lit (.int .u8 54), .lit (.int .u8 26), .lit (.int .u8 40), .lit (.int .u8 15), .lit (.int .u8 34), .lit (.int .u8 20), .lit (.int .u8 31), .lit (.int .u8 10), .lit (.int .u8 25), .lit (.int .u8 14), .lit (.int .u8 19), .lit (.int .u8 9), .lit (.int .u8 13), .lit (.int .u8 8), .lit (.int .u8 7), .lit (.int .u8 6)]

/-- 'hearthlaw8.SpaceOver': WHATEVER THE INPUT: true; the input reads as it did. -/
def spaceOverSpec : ChangeSpec := { name := "spaceOver", fn := fun _ => fun
  | [d1, d2, d3] => { results := [.lit (.bool true)], args := [d1, d2, d3] }
  | _ => none }
def spaceOverRow : OpenClaim := { program := "ytiniadochjeieaadoor", sum := "c42441813aec1895df21378bb06671d0ac9760c910dc984247832d61a92c9222", func := "hearth/hearthlaw8.SpaceOver", spec := "spaceOver", unfollowed := true, recurses := true, named := ["math/bits.deBruijn64tab"], apart := false, laid := [("math/bits.deBruijn64tab", laid_math_bits_deBruijn64tab)] }
def SpaceOverSaid : Prop := spaceOverRow.holds Tryd.pinned (OpenSpec.ofChange spaceOverSpec)

/-- ITS FALSE NEIGHBOUR: 'it returns false'. Refute it at one input. -/
def spaceOverWrong : ChangeSpec := { name := "spaceOver", fn := fun _ => fun
  | [d1, d2, d3] => { results := [.lit (.bool false)], args := [d1, d2, d3] }
  | _ => none }
def SpaceOverWrongFalsely : Prop := spaceOverRow.holds Tryd.pinned (OpenSpec.ofChange spaceOverWrong)

/-- 'hearthlaw8.SpaceLow': WHATEVER THE INPUT: true; the input reads as it did. -/
def spaceLowSpec : ChangeSpec := { name := "spaceLow", fn := fun _ => fun
  | [d1, d2, d3, d4] => { results := [.lit (.bool true)], args := [d1, d2, d3, d4] }
  | _ => none }
def spaceLowRow : OpenClaim := { program := "ytiniadochjeieaadoor", sum := "c42441813aec1895df21378bb06671d0ac9760c910dc984247832d61a92c9222", func := "hearth/hearthlaw8.SpaceLow", spec := "spaceLow", unfollowed := true, recurses := true, named := ["math/bits.deBruijn64tab"], apart := false, laid := [("math/bits.deBruijn64tab", laid_math_bits_deBruijn64tab)] }
def SpaceLowSaid : Prop := spaceLowRow.holds Tryd.pinned (OpenSpec.ofChange spaceLowSpec)

/-- ITS FALSE NEIGHBOUR: 'it returns false'. Refute it at one input. -/
def spaceLowWrong : ChangeSpec := { name := "spaceLow", fn := fun _ => fun
  | [d1, d2, d3, d4] => { results := [.lit (.bool false)], args := [d1, d2, d3, d4] }
  | _ => none }
def SpaceLowWrongFalsely : Prop := spaceLowRow.holds Tryd.pinned (OpenSpec.ofChange spaceLowWrong)

/-- 'hearthlaw8.SpaceFills': WHATEVER THE INPUT: true; the input reads as it did. -/
def spaceFillsSpec : ChangeSpec := { name := "spaceFills", fn := fun _ => fun
  | [d1, d2] => { results := [.lit (.bool true)], args := [d1, d2] }
  | _ => none }
def spaceFillsRow : OpenClaim := { program := "ytiniadochjeieaadoor", sum := "c42441813aec1895df21378bb06671d0ac9760c910dc984247832d61a92c9222", func := "hearth/hearthlaw8.SpaceFills", spec := "spaceFills", unfollowed := true, recurses := true, named := ["math/bits.deBruijn64tab"], apart := false, laid := [("math/bits.deBruijn64tab", laid_math_bits_deBruijn64tab)] }
def SpaceFillsSaid : Prop := spaceFillsRow.holds Tryd.pinned (OpenSpec.ofChange spaceFillsSpec)

/-- ITS FALSE NEIGHBOUR: 'it returns false'. Refute it at one input. -/
def spaceFillsWrong : ChangeSpec := { name := "spaceFills", fn := fun _ => fun
  | [d1, d2] => { results := [.lit (.bool false)], args := [d1, d2] }
  | _ => none }
def SpaceFillsWrongFalsely : Prop := spaceFillsRow.holds Tryd.pinned (OpenSpec.ofChange spaceFillsWrong)

/-- 'hearthlaw8.SpaceKept': WHATEVER THE INPUT: true; the input reads as it did. -/
def spaceKeptSpec : ChangeSpec := { name := "spaceKept", fn := fun _ => fun
  | [d1, d2, d3] => { results := [.lit (.bool true)], args := [d1, d2, d3] }
  | _ => none }
def spaceKeptRow : OpenClaim := { program := "ytiniadochjeieaadoor", sum := "c42441813aec1895df21378bb06671d0ac9760c910dc984247832d61a92c9222", func := "hearth/hearthlaw8.SpaceKept", spec := "spaceKept", unfollowed := true, recurses := true, named := ["math/bits.deBruijn64tab"], apart := false, laid := [("math/bits.deBruijn64tab", laid_math_bits_deBruijn64tab)] }
def SpaceKeptSaid : Prop := spaceKeptRow.holds Tryd.pinned (OpenSpec.ofChange spaceKeptSpec)

/-- ITS FALSE NEIGHBOUR: 'it returns false'. Refute it at one input. -/
def spaceKeptWrong : ChangeSpec := { name := "spaceKept", fn := fun _ => fun
  | [d1, d2, d3] => { results := [.lit (.bool false)], args := [d1, d2, d3] }
  | _ => none }
def SpaceKeptWrongFalsely : Prop := spaceKeptRow.holds Tryd.pinned (OpenSpec.ofChange spaceKeptWrong)

/-- 'hearthlaw8.SpaceApart': WHATEVER THE INPUT: true; the input reads as it did. -/
def spaceApartSpec : ChangeSpec := { name := "spaceApart", fn := fun _ => fun
  | [d1, d2] => { results := [.lit (.bool true)], args := [d1, d2] }
  | _ => none }
def spaceApartRow : OpenClaim := { program := "ytiniadochjeieaadoor", sum := "c42441813aec1895df21378bb06671d0ac9760c910dc984247832d61a92c9222", func := "hearth/hearthlaw8.SpaceApart", spec := "spaceApart", unfollowed := true, recurses := true, named := ["math/bits.deBruijn64tab"], apart := false, laid := [("math/bits.deBruijn64tab", laid_math_bits_deBruijn64tab)] }
def SpaceApartSaid : Prop := spaceApartRow.holds Tryd.pinned (OpenSpec.ofChange spaceApartSpec)

/-- ITS FALSE NEIGHBOUR: 'it returns false'. Refute it at one input. -/
def spaceApartWrong : ChangeSpec := { name := "spaceApart", fn := fun _ => fun
  | [d1, d2] => { results := [.lit (.bool false)], args := [d1, d2] }
  | _ => none }
def SpaceApartWrongFalsely : Prop := spaceApartRow.holds Tryd.pinned (OpenSpec.ofChange spaceApartWrong)

/-- 'hearthlaw8.SpaceTold': WHATEVER THE INPUT: true; the input reads as it did. -/
def spaceToldSpec : ChangeSpec := { name := "spaceTold", fn := fun _ => fun
  | [d1, d2, d3, d4] => { results := [.lit (.bool true)], args := [d1, d2, d3, d4] }
  | _ => none }
def spaceToldRow : OpenClaim := { program := "ytiniadochjeieaadoor", sum := "c42441813aec1895df21378bb06671d0ac9760c910dc984247832d61a92c9222", func := "hearth/hearthlaw8.SpaceTold", spec := "spaceTold", unfollowed := true, recurses := true, named := ["math/bits.deBruijn64tab"], apart := false, laid := [("math/bits.deBruijn64tab", laid_math_bits_deBruijn64tab)] }
def SpaceToldSaid : Prop := spaceToldRow.holds Tryd.pinned (OpenSpec.ofChange spaceToldSpec)

/-- ITS FALSE NEIGHBOUR: 'it returns false'. Refute it at one input. -/
def spaceToldWrong : ChangeSpec := { name := "spaceTold", fn := fun _ => fun
  | [d1, d2, d3, d4] => { results := [.lit (.bool false)], args := [d1, d2, d3, d4] }
  | _ => none }
def SpaceToldWrongFalsely : Prop := spaceToldRow.holds Tryd.pinned (OpenSpec.ofChange spaceToldWrong)

/-- 'hearthlaw8.SpaceTrue': WHATEVER THE INPUT: true; the input reads as it did. -/
def spaceTrueSpec : ChangeSpec := { name := "spaceTrue", fn := fun _ => fun
  | [d1, d2, d3] => { results := [.lit (.bool true)], args := [d1, d2, d3] }
  | _ => none }
def spaceTrueRow : OpenClaim := { program := "ytiniadochjeieaadoor", sum := "c42441813aec1895df21378bb06671d0ac9760c910dc984247832d61a92c9222", func := "hearth/hearthlaw8.SpaceTrue", spec := "spaceTrue", unfollowed := true, recurses := true, named := ["math/bits.deBruijn64tab"], apart := false, laid := [("math/bits.deBruijn64tab", laid_math_bits_deBruijn64tab)] }
def SpaceTrueSaid : Prop := spaceTrueRow.holds Tryd.pinned (OpenSpec.ofChange spaceTrueSpec)

/-- ITS FALSE NEIGHBOUR: 'it returns false'. Refute it at one input. -/
def spaceTrueWrong : ChangeSpec := { name := "spaceTrue", fn := fun _ => fun
  | [d1, d2, d3] => { results := [.lit (.bool false)], args := [d1, d2, d3] }
  | _ => none }
def SpaceTrueWrongFalsely : Prop := spaceTrueRow.holds Tryd.pinned (OpenSpec.ofChange spaceTrueWrong)

/-- 'hearthlaw8.SpaceWide': WHATEVER THE INPUT: true; the input reads as it did. -/
def spaceWideSpec : ChangeSpec := { name := "spaceWide", fn := fun _ => fun
  | [d1, d2, d3, d4] => { results := [.lit (.bool true)], args := [d1, d2, d3, d4] }
  | _ => none }
def spaceWideRow : OpenClaim := { program := "ytiniadochjeieaadoor", sum := "c42441813aec1895df21378bb06671d0ac9760c910dc984247832d61a92c9222", func := "hearth/hearthlaw8.SpaceWide", spec := "spaceWide", unfollowed := true, recurses := true, named := ["math/bits.deBruijn64tab"], apart := false, laid := [("math/bits.deBruijn64tab", laid_math_bits_deBruijn64tab)] }
def SpaceWideSaid : Prop := spaceWideRow.holds Tryd.pinned (OpenSpec.ofChange spaceWideSpec)

/-- ITS FALSE NEIGHBOUR: 'it returns false'. Refute it at one input. -/
def spaceWideWrong : ChangeSpec := { name := "spaceWide", fn := fun _ => fun
  | [d1, d2, d3, d4] => { results := [.lit (.bool false)], args := [d1, d2, d3, d4] }
  | _ => none }
def SpaceWideWrongFalsely : Prop := spaceWideRow.holds Tryd.pinned (OpenSpec.ofChange spaceWideWrong)

/- THE SECOND FORM. 'bulk': how many values and letters a reading holds, each counted each time it is reached (what is shared counts as often as it is met; a slice's spare places count too). A statement '..UptoSaid' is the law's where the arguments, and the package variables that the reading takes, are together of bulk at most 1048576: NARROWER than '..Said'. Prove '..Said' where nothing that the law and all that it calls make is longer than what came in: it says more and counts as full. Else prove '..UptoSaid'. A law counts once. -/
mutual
def uptoBulk {H : Type} : DataW H → Nat
  | .lit (.string bytes) => bytes.length + 1
  | .lit _ => 1
  | .nil => 1
  | .ptr d => uptoBulk d + 1
  | .slice elems spare => uptoBulkAll elems + uptoBulkAll spare + 1
  | .agg parts => uptoBulkAll parts + 1
  | .iface _ d => uptoBulk d + 1
  | .map entries => uptoBulkEntries entries + 1
  | .held _ => 1
def uptoBulkAll {H : Type} : List (DataW H) → Nat
  | [] => 0
  | d :: r => uptoBulk d + uptoBulkAll r
def uptoBulkEntries {H : Type} : List (Lit × DataW H) → Nat
  | [] => 0
  | x :: r => uptoBulkEntry x + uptoBulkEntries r
def uptoBulkEntry {H : Type} : Lit × DataW H → Nat
  | (.string bytes, d) => bytes.length + uptoBulk d + 1
  | (_, d) => uptoBulk d + 1
 end
def uptoSmall : (H : Type) → List (DataW H) → Bool := fun _ ds => decide (uptoBulkAll ds ≤ 1048576)
def OpenSpec.upto (s : _root_.Go.ChangeSpec) : _root_.Go.OpenSpec := { _root_.Go.OpenSpec.ofChange s with cond := some uptoSmall }

/-- 'hearthlaw8.SpaceOver', WHERE WHAT IT READS IS OF BULK AT MOST 1048576: true; the input reads as it did. -/
def spaceOverUptoRow : OpenClaim := { program := "ytiniadochjeieaadoor", sum := "c42441813aec1895df21378bb06671d0ac9760c910dc984247832d61a92c9222", func := "hearth/hearthlaw8.SpaceOver", spec := "spaceOver", unfollowed := true, recurses := true, named := ["math/bits.deBruijn64tab"], apart := false, laid := [("math/bits.deBruijn64tab", laid_math_bits_deBruijn64tab)], narrowed := true }
def SpaceOverUptoSaid : Prop := spaceOverUptoRow.holds Tryd.pinned (OpenSpec.upto spaceOverSpec)

/-- 'hearthlaw8.SpaceLow', WHERE WHAT IT READS IS OF BULK AT MOST 1048576: true; the input reads as it did. -/
def spaceLowUptoRow : OpenClaim := { program := "ytiniadochjeieaadoor", sum := "c42441813aec1895df21378bb06671d0ac9760c910dc984247832d61a92c9222", func := "hearth/hearthlaw8.SpaceLow", spec := "spaceLow", unfollowed := true, recurses := true, named := ["math/bits.deBruijn64tab"], apart := false, laid := [("math/bits.deBruijn64tab", laid_math_bits_deBruijn64tab)], narrowed := true }
def SpaceLowUptoSaid : Prop := spaceLowUptoRow.holds Tryd.pinned (OpenSpec.upto spaceLowSpec)

/-- 'hearthlaw8.SpaceFills', WHERE WHAT IT READS IS OF BULK AT MOST 1048576: true; the input reads as it did. -/
def spaceFillsUptoRow : OpenClaim := { program := "ytiniadochjeieaadoor", sum := "c42441813aec1895df21378bb06671d0ac9760c910dc984247832d61a92c9222", func := "hearth/hearthlaw8.SpaceFills", spec := "spaceFills", unfollowed := true, recurses := true, named := ["math/bits.deBruijn64tab"], apart := false, laid := [("math/bits.deBruijn64tab", laid_math_bits_deBruijn64tab)], narrowed := true }
def SpaceFillsUptoSaid : Prop := spaceFillsUptoRow.holds Tryd.pinned (OpenSpec.upto spaceFillsSpec)

/-- 'hearthlaw8.SpaceKept', WHERE WHAT IT READS IS OF BULK AT MOST 1048576: true; the input reads as it did. -/
def spaceKeptUptoRow : OpenClaim := { program := "ytiniadochjeieaadoor", sum := "c42441813aec1895df21378bb06671d0ac9760c910dc984247832d61a92c9222", func := "hearth/hearthlaw8.SpaceKept", spec := "spaceKept", unfollowed := true, recurses := true, named := ["math/bits.deBruijn64tab"], apart := false, laid := [("math/bits.deBruijn64tab", laid_math_bits_deBruijn64tab)], narrowed := true }
def SpaceKeptUptoSaid : Prop := spaceKeptUptoRow.holds Tryd.pinned (OpenSpec.upto spaceKeptSpec)

/-- 'hearthlaw8.SpaceApart', WHERE WHAT IT READS IS OF BULK AT MOST 1048576: true; the input reads as it did. -/
def spaceApartUptoRow : OpenClaim := { program := "ytiniadochjeieaadoor", sum := "c42441813aec1895df21378bb06671d0ac9760c910dc984247832d61a92c9222", func := "hearth/hearthlaw8.SpaceApart", spec := "spaceApart", unfollowed := true, recurses := true, named := ["math/bits.deBruijn64tab"], apart := false, laid := [("math/bits.deBruijn64tab", laid_math_bits_deBruijn64tab)], narrowed := true }
def SpaceApartUptoSaid : Prop := spaceApartUptoRow.holds Tryd.pinned (OpenSpec.upto spaceApartSpec)

/-- 'hearthlaw8.SpaceTold', WHERE WHAT IT READS IS OF BULK AT MOST 1048576: true; the input reads as it did. -/
def spaceToldUptoRow : OpenClaim := { program := "ytiniadochjeieaadoor", sum := "c42441813aec1895df21378bb06671d0ac9760c910dc984247832d61a92c9222", func := "hearth/hearthlaw8.SpaceTold", spec := "spaceTold", unfollowed := true, recurses := true, named := ["math/bits.deBruijn64tab"], apart := false, laid := [("math/bits.deBruijn64tab", laid_math_bits_deBruijn64tab)], narrowed := true }
def SpaceToldUptoSaid : Prop := spaceToldUptoRow.holds Tryd.pinned (OpenSpec.upto spaceToldSpec)

/-- 'hearthlaw8.SpaceTrue', WHERE WHAT IT READS IS OF BULK AT MOST 1048576: true; the input reads as it did. -/
def spaceTrueUptoRow : OpenClaim := { program := "ytiniadochjeieaadoor", sum := "c42441813aec1895df21378bb06671d0ac9760c910dc984247832d61a92c9222", func := "hearth/hearthlaw8.SpaceTrue", spec := "spaceTrue", unfollowed := true, recurses := true, named := ["math/bits.deBruijn64tab"], apart := false, laid := [("math/bits.deBruijn64tab", laid_math_bits_deBruijn64tab)], narrowed := true }
def SpaceTrueUptoSaid : Prop := spaceTrueUptoRow.holds Tryd.pinned (OpenSpec.upto spaceTrueSpec)

/-- 'hearthlaw8.SpaceWide', WHERE WHAT IT READS IS OF BULK AT MOST 1048576: true; the input reads as it did. -/
def spaceWideUptoRow : OpenClaim := { program := "ytiniadochjeieaadoor", sum := "c42441813aec1895df21378bb06671d0ac9760c910dc984247832d61a92c9222", func := "hearth/hearthlaw8.SpaceWide", spec := "spaceWide", unfollowed := true, recurses := true, named := ["math/bits.deBruijn64tab"], apart := false, laid := [("math/bits.deBruijn64tab", laid_math_bits_deBruijn64tab)], narrowed := true }
def SpaceWideUptoSaid : Prop := spaceWideUptoRow.holds Tryd.pinned (OpenSpec.upto spaceWideSpec)

end Rows
end Go.Proofs.YtiniadochjeieaaDoor
