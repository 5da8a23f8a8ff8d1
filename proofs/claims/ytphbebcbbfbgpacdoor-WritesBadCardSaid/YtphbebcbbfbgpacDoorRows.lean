/-
  NARROWER THAN 'FOR EVERY INPUT', by the rows' own cells (each row's printed sentence says how): EnginesGood: laid · ItemsOnce: laid · WritesBad: laid · UsesCount: laid · WritesRead: laid · WritesUndone: laid · TopMarked: laid · TopTwice: laid · TopPrefix: laid · TopSees: laid · TopAborted: laid.
  DERIVED. THE GIVEN ROWS OF THIS SEAT. 11 by the template 'for every input the law returns true; each argument reads behind the call as it read before'; 0 by the template 'total and deterministic' (their statements: YtphbebcbbfbgpacDoorTotals.lean).
  GIVEN WITH THE SEED: the statements are not yours to turn. If you find one false, say at which input.
  Laid BY PROGRAM, IN A SANDBOX (cutbox-rows.mjs): the forced cells as the released guide's own fill.sh prints them over the translation 10e45d8d57468ec6… (all of the seat's roots in one cut). By AI agents, Wed Nov 11 2026. No macro, syntax, notation, axiom, sorry.
-/
import Derived.Test.YtphbebcbbfbgpacDoorChecked
import GoSem.Claim
import GoSem.ClaimJoined
import GoSem.ClaimMapViews
import Derived.JoinedTies
import Derived.KernelRfl
namespace Go.Proofs.YtphbebcbbfbgpacDoor
/- THE CELL 'sum', in the pinned program and in every row, IS THE sha256 OF THE DUMP (.gsa) THAT YtphbebcbbfbgpacDoorProg.lean LOADS. Nothing in Lean hashes anything: it is a label: what it is worth is what the hold of that sum in a sandbox is worth. -/
noncomputable def Tryd.pinned : Pinned := { name := "ytphbebcbbfbgpacdoor", sum := "10e45d8d57468ec6a50b7e00b934bbbcae00adbdcbee5cee789de14525bd4831", checked := Tryd.checked }
namespace Rows
def none {H : Type} : Left H := { results := [], args := [] }

/- WHAT THE LISTED PACKAGE-LEVEL VARIABLES READ AS WHEN THE CALL BEGINS. Each datum BY PROGRAM (the guide's laid-datum.mjs) off the statement by which the dump's own 'gosem.cut.vars' lays the variable. In a bare row this is a premise. The card (YtphbebcbbfbgpacDoorCards.lean) ties it to the program's text. -/
def laid_math_bits_deBruijn32tab {H : Type} : DataW H := .agg [.lit (.int .u8 0), .lit (.int .u8 1), .lit (.int .u8 28), .lit (.int .u8 2), .lit (.int .u8 29), .lit (.int .u8 14), .lit (.int .u8 24), .lit (.int .u8 3), .lit (.int .u8 30), .lit (.int .u8 22), .lit (.int .u8 20), .lit (.int .u8 15), .lit (.int .u8 25), .lit (.int .u8 17), .lit (.int .u8 4), .lit (.int .u8 8), .lit (.int .u8 31), .lit (.int .u8 27), .lit (.int .u8 13), .lit (.int .u8 23), .lit (.int .u8 21), .lit (.int .u8 19), .lit (.int .u8 16), .lit (.int .u8 7), .lit (.int .u8 26), .lit (.int .u8 12), .lit (.int .u8 18), .lit (.int .u8 6), .lit (.int .u8 11), .lit (.int .u8 5), .lit (.int .u8 10), .lit (.int .u8 9)]
def laid_math_bits_deBruijn64tab {H : Type} : DataW H := .agg [.lit (.int .u8 0), .lit (.int .u8 1), .lit (.int .u8 56), .lit (.int .u8 2), .lit (.int .u8 57), .lit (.int .u8 49), .lit (.int .u8 28), .lit (.int .u8 3), .lit (.int .u8 61), .lit (.int .u8 58), .lit (.int .u8 42), .lit (.int .u8 50), .lit (.int .u8 38), .lit (.int .u8 29), .lit (.int .u8 17), .lit (.int .u8 4), .lit (.int .u8 62), .lit (.int .u8 47), .lit (.int .u8 59), .lit (.int .u8 36), .lit (.int .u8 45), .lit (.int .u8 43), .lit (.int .u8 51), .lit (.int .u8 22), .lit (.int .u8 53), .lit (.int .u8 39), .lit (.int .u8 33), .lit (.int .u8 30), .lit (.int .u8 24), .lit (.int .u8 18), .lit (.int .u8 12), .lit (.int .u8 5), .lit (.int .u8 63), .lit (.int .u8 55), .lit (.int .u8 48), .lit (.int .u8 27), .lit (.int .u8 60), .lit (.int .u8 41), .lit (.int .u8 37), .lit (.int .u8 16), .lit (.int .u8 46), .lit (.int .u8 35), .lit (.int .u8 44), .lit (.int .u8 21), .lit (.int .u8 52), .lit (.int .u8 32), .lit (.int .u8 23), .lit (.int .u8 11), .lit (.int .u8 54), .lit (.int .u8 26), .lit (.int .u8 40), .lit (.int .u8 15), .lit (.int .u8 34), .lit (.int .u8 20), .lit (.int .u8 31), .lit (.int .u8 10), .lit (.int .u8 25), .lit (.int .u8 14), .lit (.int .u8 19), .lit (.int .u8 9), .lit (.int .u8 13), .lit (.int .u8 8), .lit (.int .u8 7), .lit (.int .u8 6)]
def laid_internal_strconv_uint64pow10 {H : Type} : DataW H := .agg [.lit (.int .u64 1), .lit (.int .u64 10), .lit (.int .u64 100), .lit (.int .u64 1000), .lit (.int .u64 10000), .lit (.int .u64 100000), .lit (.int .u64 1000000), .lit (.int .u64 10000000), .lit (.int .u64 100000000), .lit (.int .u64 1000000000), .lit (.int .u64 10000000000), .lit (.int .u64 100000000000), .lit (.int .u64 1000000000000), .lit (.int .u64 10000000000000), .lit (.int .u64 100000000000000), .lit (.int .u64 1000000000000000), .lit (.int .u64 10000000000000000), .lit (.int .u64 100000000000000000), .lit (.int .u64 1000000000000000000), .lit (.int .u64 10000000000000000000)]

/-- 'saltcellarkeep.EnginesGood': WHATEVER THE INPUT: true; the input reads as it did. -/
def enginesGoodSpec : ChangeSpec := { name := "enginesGood", fn := fun _ => fun
  | [d1, d2, d3] => { results := [.lit (.bool true)], args := [d1, d2, d3] }
  | _ => none }
def enginesGoodRow : OpenClaim := { program := "ytphbebcbbfbgpacdoor", sum := "10e45d8d57468ec6a50b7e00b934bbbcae00adbdcbee5cee789de14525bd4831", func := "saltcellar/saltcellarkeep.EnginesGood", spec := "enginesGood", inPlace := ["internal/abi.NoEscape", "internal/bytealg.MakeNoZero", "slices.overlaps[saltcellar/api.Write]", "slices.overlaps[saltcellar/api.Item]"], unfollowed := true, recurses := true, named := ["internal/strconv.uint64pow10", "math/bits.deBruijn32tab", "math/bits.deBruijn64tab"], apart := false, laid := [("math/bits.deBruijn32tab", laid_math_bits_deBruijn32tab), ("math/bits.deBruijn64tab", laid_math_bits_deBruijn64tab), ("internal/strconv.uint64pow10", laid_internal_strconv_uint64pow10)] }
def EnginesGoodSaid : Prop := enginesGoodRow.holds Tryd.pinned (OpenSpec.ofChange enginesGoodSpec)

/-- ITS FALSE NEIGHBOUR: 'it returns false'. Refute it at one input. -/
def enginesGoodWrong : ChangeSpec := { name := "enginesGood", fn := fun _ => fun
  | [d1, d2, d3] => { results := [.lit (.bool false)], args := [d1, d2, d3] }
  | _ => none }
def EnginesGoodWrongFalsely : Prop := enginesGoodRow.holds Tryd.pinned (OpenSpec.ofChange enginesGoodWrong)

/-- 'saltcellarkeep.ItemsOnce': WHATEVER THE INPUT: true; the input reads as it did. -/
def itemsOnceSpec : ChangeSpec := { name := "itemsOnce", fn := fun _ => fun
  | [d1, d2] => { results := [.lit (.bool true)], args := [d1, d2] }
  | _ => none }
def itemsOnceRow : OpenClaim := { program := "ytphbebcbbfbgpacdoor", sum := "10e45d8d57468ec6a50b7e00b934bbbcae00adbdcbee5cee789de14525bd4831", func := "saltcellar/saltcellarkeep.ItemsOnce", spec := "itemsOnce", inPlace := ["internal/abi.NoEscape", "internal/bytealg.MakeNoZero", "slices.overlaps[saltcellar/api.Item]"], unfollowed := true, recurses := true, named := ["internal/strconv.uint64pow10", "math/bits.deBruijn32tab", "math/bits.deBruijn64tab"], apart := false, laid := [("math/bits.deBruijn32tab", laid_math_bits_deBruijn32tab), ("math/bits.deBruijn64tab", laid_math_bits_deBruijn64tab), ("internal/strconv.uint64pow10", laid_internal_strconv_uint64pow10)] }
def ItemsOnceSaid : Prop := itemsOnceRow.holds Tryd.pinned (OpenSpec.ofChange itemsOnceSpec)

/-- ITS FALSE NEIGHBOUR: 'it returns false'. Refute it at one input. -/
def itemsOnceWrong : ChangeSpec := { name := "itemsOnce", fn := fun _ => fun
  | [d1, d2] => { results := [.lit (.bool false)], args := [d1, d2] }
  | _ => none }
def ItemsOnceWrongFalsely : Prop := itemsOnceRow.holds Tryd.pinned (OpenSpec.ofChange itemsOnceWrong)

/-- 'saltcellarkeep.WritesBad': WHATEVER THE INPUT: true; the input reads as it did. -/
def writesBadSpec : ChangeSpec := { name := "writesBad", fn := fun _ => fun
  | [d1, d2, d3] => { results := [.lit (.bool true)], args := [d1, d2, d3] }
  | _ => none }
def writesBadRow : OpenClaim := { program := "ytphbebcbbfbgpacdoor", sum := "10e45d8d57468ec6a50b7e00b934bbbcae00adbdcbee5cee789de14525bd4831", func := "saltcellar/saltcellarkeep.WritesBad", spec := "writesBad", inPlace := ["internal/abi.NoEscape", "internal/bytealg.MakeNoZero", "slices.overlaps[saltcellar/api.Item]"], unfollowed := true, recurses := true, named := ["internal/strconv.uint64pow10", "math/bits.deBruijn32tab", "math/bits.deBruijn64tab"], apart := false, laid := [("math/bits.deBruijn32tab", laid_math_bits_deBruijn32tab), ("math/bits.deBruijn64tab", laid_math_bits_deBruijn64tab), ("internal/strconv.uint64pow10", laid_internal_strconv_uint64pow10)] }
def WritesBadSaid : Prop := writesBadRow.holds Tryd.pinned (OpenSpec.ofChange writesBadSpec)

/-- ITS FALSE NEIGHBOUR: 'it returns false'. Refute it at one input. -/
def writesBadWrong : ChangeSpec := { name := "writesBad", fn := fun _ => fun
  | [d1, d2, d3] => { results := [.lit (.bool false)], args := [d1, d2, d3] }
  | _ => none }
def WritesBadWrongFalsely : Prop := writesBadRow.holds Tryd.pinned (OpenSpec.ofChange writesBadWrong)

/-- 'saltcellarkeep.UsesCount': WHATEVER THE INPUT: true; the input reads as it did. -/
def usesCountSpec : ChangeSpec := { name := "usesCount", fn := fun _ => fun
  | [d1, d2] => { results := [.lit (.bool true)], args := [d1, d2] }
  | _ => none }
def usesCountRow : OpenClaim := { program := "ytphbebcbbfbgpacdoor", sum := "10e45d8d57468ec6a50b7e00b934bbbcae00adbdcbee5cee789de14525bd4831", func := "saltcellar/saltcellarkeep.UsesCount", spec := "usesCount", inPlace := ["internal/abi.NoEscape", "internal/bytealg.MakeNoZero", "slices.overlaps[saltcellar/api.Item]"], unfollowed := true, recurses := true, named := ["internal/strconv.uint64pow10", "math/bits.deBruijn32tab", "math/bits.deBruijn64tab"], apart := false, laid := [("math/bits.deBruijn32tab", laid_math_bits_deBruijn32tab), ("math/bits.deBruijn64tab", laid_math_bits_deBruijn64tab), ("internal/strconv.uint64pow10", laid_internal_strconv_uint64pow10)] }
def UsesCountSaid : Prop := usesCountRow.holds Tryd.pinned (OpenSpec.ofChange usesCountSpec)

/-- ITS FALSE NEIGHBOUR: 'it returns false'. Refute it at one input. -/
def usesCountWrong : ChangeSpec := { name := "usesCount", fn := fun _ => fun
  | [d1, d2] => { results := [.lit (.bool false)], args := [d1, d2] }
  | _ => none }
def UsesCountWrongFalsely : Prop := usesCountRow.holds Tryd.pinned (OpenSpec.ofChange usesCountWrong)

/-- 'saltcellarkeep.WritesRead': WHATEVER THE INPUT: true; the input reads as it did. -/
def writesReadSpec : ChangeSpec := { name := "writesRead", fn := fun _ => fun
  | [d1, d2] => { results := [.lit (.bool true)], args := [d1, d2] }
  | _ => none }
def writesReadRow : OpenClaim := { program := "ytphbebcbbfbgpacdoor", sum := "10e45d8d57468ec6a50b7e00b934bbbcae00adbdcbee5cee789de14525bd4831", func := "saltcellar/saltcellarkeep.WritesRead", spec := "writesRead", inPlace := ["internal/abi.NoEscape", "internal/bytealg.MakeNoZero", "slices.overlaps[saltcellar/api.Item]"], unfollowed := true, recurses := true, named := ["internal/strconv.uint64pow10", "math/bits.deBruijn32tab", "math/bits.deBruijn64tab"], apart := false, laid := [("math/bits.deBruijn32tab", laid_math_bits_deBruijn32tab), ("math/bits.deBruijn64tab", laid_math_bits_deBruijn64tab), ("internal/strconv.uint64pow10", laid_internal_strconv_uint64pow10)] }
def WritesReadSaid : Prop := writesReadRow.holds Tryd.pinned (OpenSpec.ofChange writesReadSpec)

/-- ITS FALSE NEIGHBOUR: 'it returns false'. Refute it at one input. -/
def writesReadWrong : ChangeSpec := { name := "writesRead", fn := fun _ => fun
  | [d1, d2] => { results := [.lit (.bool false)], args := [d1, d2] }
  | _ => none }
def WritesReadWrongFalsely : Prop := writesReadRow.holds Tryd.pinned (OpenSpec.ofChange writesReadWrong)

/-- 'saltcellarkeep.WritesUndone': WHATEVER THE INPUT: true; the input reads as it did. -/
def writesUndoneSpec : ChangeSpec := { name := "writesUndone", fn := fun _ => fun
  | [d1, d2] => { results := [.lit (.bool true)], args := [d1, d2] }
  | _ => none }
def writesUndoneRow : OpenClaim := { program := "ytphbebcbbfbgpacdoor", sum := "10e45d8d57468ec6a50b7e00b934bbbcae00adbdcbee5cee789de14525bd4831", func := "saltcellar/saltcellarkeep.WritesUndone", spec := "writesUndone", inPlace := ["internal/abi.NoEscape", "internal/bytealg.MakeNoZero", "slices.overlaps[saltcellar/api.Item]"], unfollowed := true, recurses := true, named := ["internal/strconv.uint64pow10", "math/bits.deBruijn32tab", "math/bits.deBruijn64tab"], apart := false, laid := [("math/bits.deBruijn32tab", laid_math_bits_deBruijn32tab), ("math/bits.deBruijn64tab", laid_math_bits_deBruijn64tab), ("internal/strconv.uint64pow10", laid_internal_strconv_uint64pow10)] }
def WritesUndoneSaid : Prop := writesUndoneRow.holds Tryd.pinned (OpenSpec.ofChange writesUndoneSpec)

/-- ITS FALSE NEIGHBOUR: 'it returns false'. Refute it at one input. -/
def writesUndoneWrong : ChangeSpec := { name := "writesUndone", fn := fun _ => fun
  | [d1, d2] => { results := [.lit (.bool false)], args := [d1, d2] }
  | _ => none }
def WritesUndoneWrongFalsely : Prop := writesUndoneRow.holds Tryd.pinned (OpenSpec.ofChange writesUndoneWrong)

/-- 'saltcellartop.TopMarked': WHATEVER THE INPUT: true; the input reads as it did. -/
def topMarkedSpec : ChangeSpec := { name := "topMarked", fn := fun _ => fun
  | [d1, d2] => { results := [.lit (.bool true)], args := [d1, d2] }
  | _ => none }
def topMarkedRow : OpenClaim := { program := "ytphbebcbbfbgpacdoor", sum := "10e45d8d57468ec6a50b7e00b934bbbcae00adbdcbee5cee789de14525bd4831", func := "saltcellar/saltcellartop.TopMarked", spec := "topMarked", inPlace := ["internal/abi.NoEscape", "internal/bytealg.MakeNoZero", "slices.overlaps[saltcellar/api.Write]", "slices.overlaps[saltcellar/api.Item]"], unfollowed := true, recurses := true, named := ["internal/strconv.uint64pow10", "math/bits.deBruijn32tab", "math/bits.deBruijn64tab"], apart := false, laid := [("math/bits.deBruijn32tab", laid_math_bits_deBruijn32tab), ("math/bits.deBruijn64tab", laid_math_bits_deBruijn64tab), ("internal/strconv.uint64pow10", laid_internal_strconv_uint64pow10)] }
def TopMarkedSaid : Prop := topMarkedRow.holds Tryd.pinned (OpenSpec.ofChange topMarkedSpec)

/-- ITS FALSE NEIGHBOUR: 'it returns false'. Refute it at one input. -/
def topMarkedWrong : ChangeSpec := { name := "topMarked", fn := fun _ => fun
  | [d1, d2] => { results := [.lit (.bool false)], args := [d1, d2] }
  | _ => none }
def TopMarkedWrongFalsely : Prop := topMarkedRow.holds Tryd.pinned (OpenSpec.ofChange topMarkedWrong)

/-- 'saltcellartop.TopTwice': WHATEVER THE INPUT: true; the input reads as it did. -/
def topTwiceSpec : ChangeSpec := { name := "topTwice", fn := fun _ => fun
  | [d1, d2] => { results := [.lit (.bool true)], args := [d1, d2] }
  | _ => none }
def topTwiceRow : OpenClaim := { program := "ytphbebcbbfbgpacdoor", sum := "10e45d8d57468ec6a50b7e00b934bbbcae00adbdcbee5cee789de14525bd4831", func := "saltcellar/saltcellartop.TopTwice", spec := "topTwice", inPlace := ["internal/abi.NoEscape", "internal/bytealg.MakeNoZero", "slices.overlaps[saltcellar/api.Write]", "slices.overlaps[saltcellar/api.Item]"], unfollowed := true, recurses := true, named := ["internal/strconv.uint64pow10", "math/bits.deBruijn32tab", "math/bits.deBruijn64tab"], apart := false, laid := [("math/bits.deBruijn32tab", laid_math_bits_deBruijn32tab), ("math/bits.deBruijn64tab", laid_math_bits_deBruijn64tab), ("internal/strconv.uint64pow10", laid_internal_strconv_uint64pow10)] }
def TopTwiceSaid : Prop := topTwiceRow.holds Tryd.pinned (OpenSpec.ofChange topTwiceSpec)

/-- ITS FALSE NEIGHBOUR: 'it returns false'. Refute it at one input. -/
def topTwiceWrong : ChangeSpec := { name := "topTwice", fn := fun _ => fun
  | [d1, d2] => { results := [.lit (.bool false)], args := [d1, d2] }
  | _ => none }
def TopTwiceWrongFalsely : Prop := topTwiceRow.holds Tryd.pinned (OpenSpec.ofChange topTwiceWrong)

/-- 'saltcellartop.TopPrefix': WHATEVER THE INPUT: true; the input reads as it did. -/
def topPrefixSpec : ChangeSpec := { name := "topPrefix", fn := fun _ => fun
  | [d1, d2] => { results := [.lit (.bool true)], args := [d1, d2] }
  | _ => none }
def topPrefixRow : OpenClaim := { program := "ytphbebcbbfbgpacdoor", sum := "10e45d8d57468ec6a50b7e00b934bbbcae00adbdcbee5cee789de14525bd4831", func := "saltcellar/saltcellartop.TopPrefix", spec := "topPrefix", inPlace := ["internal/abi.NoEscape", "internal/bytealg.MakeNoZero", "slices.overlaps[saltcellar/api.Write]", "slices.overlaps[saltcellar/api.Item]"], unfollowed := true, recurses := true, named := ["internal/strconv.uint64pow10", "math/bits.deBruijn32tab", "math/bits.deBruijn64tab"], apart := false, laid := [("math/bits.deBruijn32tab", laid_math_bits_deBruijn32tab), ("math/bits.deBruijn64tab", laid_math_bits_deBruijn64tab), ("internal/strconv.uint64pow10", laid_internal_strconv_uint64pow10)] }
def TopPrefixSaid : Prop := topPrefixRow.holds Tryd.pinned (OpenSpec.ofChange topPrefixSpec)

/-- ITS FALSE NEIGHBOUR: 'it returns false'. Refute it at one input. -/
def topPrefixWrong : ChangeSpec := { name := "topPrefix", fn := fun _ => fun
  | [d1, d2] => { results := [.lit (.bool false)], args := [d1, d2] }
  | _ => none }
def TopPrefixWrongFalsely : Prop := topPrefixRow.holds Tryd.pinned (OpenSpec.ofChange topPrefixWrong)

/-- 'saltcellartop.TopSees': WHATEVER THE INPUT: true; the input reads as it did. -/
def topSeesSpec : ChangeSpec := { name := "topSees", fn := fun _ => fun
  | [d1, d2] => { results := [.lit (.bool true)], args := [d1, d2] }
  | _ => none }
def topSeesRow : OpenClaim := { program := "ytphbebcbbfbgpacdoor", sum := "10e45d8d57468ec6a50b7e00b934bbbcae00adbdcbee5cee789de14525bd4831", func := "saltcellar/saltcellartop.TopSees", spec := "topSees", inPlace := ["internal/abi.NoEscape", "internal/bytealg.MakeNoZero", "slices.overlaps[saltcellar/api.Write]", "slices.overlaps[saltcellar/api.Item]"], unfollowed := true, recurses := true, named := ["internal/strconv.uint64pow10", "math/bits.deBruijn32tab", "math/bits.deBruijn64tab"], apart := false, laid := [("math/bits.deBruijn32tab", laid_math_bits_deBruijn32tab), ("math/bits.deBruijn64tab", laid_math_bits_deBruijn64tab), ("internal/strconv.uint64pow10", laid_internal_strconv_uint64pow10)] }
def TopSeesSaid : Prop := topSeesRow.holds Tryd.pinned (OpenSpec.ofChange topSeesSpec)

/-- ITS FALSE NEIGHBOUR: 'it returns false'. Refute it at one input. -/
def topSeesWrong : ChangeSpec := { name := "topSees", fn := fun _ => fun
  | [d1, d2] => { results := [.lit (.bool false)], args := [d1, d2] }
  | _ => none }
def TopSeesWrongFalsely : Prop := topSeesRow.holds Tryd.pinned (OpenSpec.ofChange topSeesWrong)

/-- 'saltcellartop.TopAborted': WHATEVER THE INPUT: true; the input reads as it did. -/
def topAbortedSpec : ChangeSpec := { name := "topAborted", fn := fun _ => fun
  | [d1, d2] => { results := [.lit (.bool true)], args := [d1, d2] }
  | _ => none }
def topAbortedRow : OpenClaim := { program := "ytphbebcbbfbgpacdoor", sum := "10e45d8d57468ec6a50b7e00b934bbbcae00adbdcbee5cee789de14525bd4831", func := "saltcellar/saltcellartop.TopAborted", spec := "topAborted", inPlace := ["internal/abi.NoEscape", "internal/bytealg.MakeNoZero", "slices.overlaps[saltcellar/api.Write]", "slices.overlaps[saltcellar/api.Item]"], unfollowed := true, recurses := true, named := ["internal/strconv.uint64pow10", "math/bits.deBruijn32tab", "math/bits.deBruijn64tab"], apart := false, laid := [("math/bits.deBruijn32tab", laid_math_bits_deBruijn32tab), ("math/bits.deBruijn64tab", laid_math_bits_deBruijn64tab), ("internal/strconv.uint64pow10", laid_internal_strconv_uint64pow10)] }
def TopAbortedSaid : Prop := topAbortedRow.holds Tryd.pinned (OpenSpec.ofChange topAbortedSpec)

/-- ITS FALSE NEIGHBOUR: 'it returns false'. Refute it at one input. -/
def topAbortedWrong : ChangeSpec := { name := "topAborted", fn := fun _ => fun
  | [d1, d2] => { results := [.lit (.bool false)], args := [d1, d2] }
  | _ => none }
def TopAbortedWrongFalsely : Prop := topAbortedRow.holds Tryd.pinned (OpenSpec.ofChange topAbortedWrong)

/- THE SECOND FORM. 'bulk': how many values and letters a reading holds, each counted each time it is reached (what is shared counts as often as it is met; a slice's spare places count too). A statement '..UptoSaid' is the law's where the arguments, and the package variables that the reading takes, are together of bulk at most 1048576: NARROWER than '..Said'. Prove '..Said' where nothing that the law and all that it calls make is longer than what came in: it says more and counts as full. Else prove '..UptoSaid'. A law counts once. -/
mutual
def uptoBulk {H : Type} : DataW H → Nat
  | .lit (.string bytes) => bytes.length + 1
  | .lit _ => 1
  | .nil => 1
  | .ptr d => uptoBulk d + 1
  | .slice elems spare => uptoBulkAll elems + uptoBulkAll spare + 1
  | .agg parts => uptoBulkAll parts + 1
  | .iface _ d => uptoBulk d + 1
  | .map entries => uptoBulkEntries entries + 1
  | .held _ => 1
def uptoBulkAll {H : Type} : List (DataW H) → Nat
  | [] => 0
  | d :: r => uptoBulk d + uptoBulkAll r
def uptoBulkEntries {H : Type} : List (Lit × DataW H) → Nat
  | [] => 0
  | x :: r => uptoBulkEntry x + uptoBulkEntries r
def uptoBulkEntry {H : Type} : Lit × DataW H → Nat
  | (.string bytes, d) => bytes.length + uptoBulk d + 1
  | (_, d) => uptoBulk d + 1
 end
def uptoSmall : (H : Type) → List (DataW H) → Bool := fun _ ds => decide (uptoBulkAll ds ≤ 1048576)
def OpenSpec.upto (s : _root_.Go.ChangeSpec) : _root_.Go.OpenSpec := { _root_.Go.OpenSpec.ofChange s with cond := some uptoSmall }

/-- 'saltcellarkeep.EnginesGood', WHERE WHAT IT READS IS OF BULK AT MOST 1048576: true; the input reads as it did. -/
def enginesGoodUptoRow : OpenClaim := { program := "ytphbebcbbfbgpacdoor", sum := "10e45d8d57468ec6a50b7e00b934bbbcae00adbdcbee5cee789de14525bd4831", func := "saltcellar/saltcellarkeep.EnginesGood", spec := "enginesGood", inPlace := ["internal/abi.NoEscape", "internal/bytealg.MakeNoZero", "slices.overlaps[saltcellar/api.Write]", "slices.overlaps[saltcellar/api.Item]"], unfollowed := true, recurses := true, named := ["internal/strconv.uint64pow10", "math/bits.deBruijn32tab", "math/bits.deBruijn64tab"], apart := false, laid := [("math/bits.deBruijn32tab", laid_math_bits_deBruijn32tab), ("math/bits.deBruijn64tab", laid_math_bits_deBruijn64tab), ("internal/strconv.uint64pow10", laid_internal_strconv_uint64pow10)], narrowed := true }
def EnginesGoodUptoSaid : Prop := enginesGoodUptoRow.holds Tryd.pinned (OpenSpec.upto enginesGoodSpec)

/-- 'saltcellarkeep.ItemsOnce', WHERE WHAT IT READS IS OF BULK AT MOST 1048576: true; the input reads as it did. -/
def itemsOnceUptoRow : OpenClaim := { program := "ytphbebcbbfbgpacdoor", sum := "10e45d8d57468ec6a50b7e00b934bbbcae00adbdcbee5cee789de14525bd4831", func := "saltcellar/saltcellarkeep.ItemsOnce", spec := "itemsOnce", inPlace := ["internal/abi.NoEscape", "internal/bytealg.MakeNoZero", "slices.overlaps[saltcellar/api.Item]"], unfollowed := true, recurses := true, named := ["internal/strconv.uint64pow10", "math/bits.deBruijn32tab", "math/bits.deBruijn64tab"], apart := false, laid := [("math/bits.deBruijn32tab", laid_math_bits_deBruijn32tab), ("math/bits.deBruijn64tab", laid_math_bits_deBruijn64tab), ("internal/strconv.uint64pow10", laid_internal_strconv_uint64pow10)], narrowed := true }
def ItemsOnceUptoSaid : Prop := itemsOnceUptoRow.holds Tryd.pinned (OpenSpec.upto itemsOnceSpec)

/-- 'saltcellarkeep.WritesBad', WHERE WHAT IT READS IS OF BULK AT MOST 1048576: true; the input reads as it did. -/
def writesBadUptoRow : OpenClaim := { program := "ytphbebcbbfbgpacdoor", sum := "10e45d8d57468ec6a50b7e00b934bbbcae00adbdcbee5cee789de14525bd4831", func := "saltcellar/saltcellarkeep.WritesBad", spec := "writesBad", inPlace := ["internal/abi.NoEscape", "internal/bytealg.MakeNoZero", "slices.overlaps[saltcellar/api.Item]"], unfollowed := true, recurses := true, named := ["internal/strconv.uint64pow10", "math/bits.deBruijn32tab", "math/bits.deBruijn64tab"], apart := false, laid := [("math/bits.deBruijn32tab", laid_math_bits_deBruijn32tab), ("math/bits.deBruijn64tab", laid_math_bits_deBruijn64tab), ("internal/strconv.uint64pow10", laid_internal_strconv_uint64pow10)], narrowed := true }
def WritesBadUptoSaid : Prop := writesBadUptoRow.holds Tryd.pinned (OpenSpec.upto writesBadSpec)

/-- 'saltcellarkeep.UsesCount', WHERE WHAT IT READS IS OF BULK AT MOST 1048576: true; the input reads as it did. -/
def usesCountUptoRow : OpenClaim := { program := "ytphbebcbbfbgpacdoor", sum := "10e45d8d57468ec6a50b7e00b934bbbcae00adbdcbee5cee789de14525bd4831", func := "saltcellar/saltcellarkeep.UsesCount", spec := "usesCount", inPlace := ["internal/abi.NoEscape", "internal/bytealg.MakeNoZero", "slices.overlaps[saltcellar/api.Item]"], unfollowed := true, recurses := true, named := ["internal/strconv.uint64pow10", "math/bits.deBruijn32tab", "math/bits.deBruijn64tab"], apart := false, laid := [("math/bits.deBruijn32tab", laid_math_bits_deBruijn32tab), ("math/bits.deBruijn64tab", laid_math_bits_deBruijn64tab), ("internal/strconv.uint64pow10", laid_internal_strconv_uint64pow10)], narrowed := true }
def UsesCountUptoSaid : Prop := usesCountUptoRow.holds Tryd.pinned (OpenSpec.upto usesCountSpec)

/-- 'saltcellarkeep.WritesRead', WHERE WHAT IT READS IS OF BULK AT MOST 1048576: true; the input reads as it did. -/
def writesReadUptoRow : OpenClaim := { program := "ytphbebcbbfbgpacdoor", sum := "10e45d8d57468ec6a50b7e00b934bbbcae00adbdcbee5cee789de14525bd4831", func := "saltcellar/saltcellarkeep.WritesRead", spec := "writesRead", inPlace := ["internal/abi.NoEscape", "internal/bytealg.MakeNoZero", "slices.overlaps[saltcellar/api.Item]"], unfollowed := true, recurses := true, named := ["internal/strconv.uint64pow10", "math/bits.deBruijn32tab", "math/bits.deBruijn64tab"], apart := false, laid := [("math/bits.deBruijn32tab", laid_math_bits_deBruijn32tab), ("math/bits.deBruijn64tab", laid_math_bits_deBruijn64tab), ("internal/strconv.uint64pow10", laid_internal_strconv_uint64pow10)], narrowed := true }
def WritesReadUptoSaid : Prop := writesReadUptoRow.holds Tryd.pinned (OpenSpec.upto writesReadSpec)

/-- 'saltcellarkeep.WritesUndone', WHERE WHAT IT READS IS OF BULK AT MOST 1048576: true; the input reads as it did. -/
def writesUndoneUptoRow : OpenClaim := { program := "ytphbebcbbfbgpacdoor", sum := "10e45d8d57468ec6a50b7e00b934bbbcae00adbdcbee5cee789de14525bd4831", func := "saltcellar/saltcellarkeep.WritesUndone", spec := "writesUndone", inPlace := ["internal/abi.NoEscape", "internal/bytealg.MakeNoZero", "slices.overlaps[saltcellar/api.Item]"], unfollowed := true, recurses := true, named := ["internal/strconv.uint64pow10", "math/bits.deBruijn32tab", "math/bits.deBruijn64tab"], apart := false, laid := [("math/bits.deBruijn32tab", laid_math_bits_deBruijn32tab), ("math/bits.deBruijn64tab", laid_math_bits_deBruijn64tab), ("internal/strconv.uint64pow10", laid_internal_strconv_uint64pow10)], narrowed := true }
def WritesUndoneUptoSaid : Prop := writesUndoneUptoRow.holds Tryd.pinned (OpenSpec.upto writesUndoneSpec)

/-- 'saltcellartop.TopMarked', WHERE WHAT IT READS IS OF BULK AT MOST 1048576: true; the input reads as it did. -/
def topMarkedUptoRow : OpenClaim := { program := "ytphbebcbbfbgpacdoor", sum := "10e45d8d57468ec6a50b7e00b934bbbcae00adbdcbee5cee789de14525bd4831", func := "saltcellar/saltcellartop.TopMarked", spec := "topMarked", inPlace := ["internal/abi.NoEscape", "internal/bytealg.MakeNoZero", "slices.overlaps[saltcellar/api.Write]", "slices.overlaps[saltcellar/api.Item]"], unfollowed := true, recurses := true, named := ["internal/strconv.uint64pow10", "math/bits.deBruijn32tab", "math/bits.deBruijn64tab"], apart := false, laid := [("math/bits.deBruijn32tab", laid_math_bits_deBruijn32tab), ("math/bits.deBruijn64tab", laid_math_bits_deBruijn64tab), ("internal/strconv.uint64pow10", laid_internal_strconv_uint64pow10)], narrowed := true }
def TopMarkedUptoSaid : Prop := topMarkedUptoRow.holds Tryd.pinned (OpenSpec.upto topMarkedSpec)

/-- 'saltcellartop.TopTwice', WHERE WHAT IT READS IS OF BULK AT MOST 1048576: true; the input reads as it did. -/
def topTwiceUptoRow : OpenClaim := { program := "ytphbebcbbfbgpacdoor", sum := "10e45d8d57468ec6a50b7e00b934bbbcae00adbdcbee5cee789de14525bd4831", func := "saltcellar/saltcellartop.TopTwice", spec := "topTwice", inPlace := ["internal/abi.NoEscape", "internal/bytealg.MakeNoZero", "slices.overlaps[saltcellar/api.Write]", "slices.overlaps[saltcellar/api.Item]"], unfollowed := true, recurses := true, named := ["internal/strconv.uint64pow10", "math/bits.deBruijn32tab", "math/bits.deBruijn64tab"], apart := false, laid := [("math/bits.deBruijn32tab", laid_math_bits_deBruijn32tab), ("math/bits.deBruijn64tab", laid_math_bits_deBruijn64tab), ("internal/strconv.uint64pow10", laid_internal_strconv_uint64pow10)], narrowed := true }
def TopTwiceUptoSaid : Prop := topTwiceUptoRow.holds Tryd.pinned (OpenSpec.upto topTwiceSpec)

/-- 'saltcellartop.TopPrefix', WHERE WHAT IT READS IS OF BULK AT MOST 1048576: true; the input reads as it did. -/
def topPrefixUptoRow : OpenClaim := { program := "ytphbebcbbfbgpacdoor", sum := "10e45d8d57468ec6a50b7e00b934bbbcae00adbdcbee5cee789de14525bd4831", func := "saltcellar/saltcellartop.TopPrefix", spec := "topPrefix", inPlace := ["internal/abi.NoEscape", "internal/bytealg.MakeNoZero", "slices.overlaps[saltcellar/api.Write]", "slices.overlaps[saltcellar/api.Item]"], unfollowed := true, recurses := true, named := ["internal/strconv.uint64pow10", "math/bits.deBruijn32tab", "math/bits.deBruijn64tab"], apart := false, laid := [("math/bits.deBruijn32tab", laid_math_bits_deBruijn32tab), ("math/bits.deBruijn64tab", laid_math_bits_deBruijn64tab), ("internal/strconv.uint64pow10", laid_internal_strconv_uint64pow10)], narrowed := true }
def TopPrefixUptoSaid : Prop := topPrefixUptoRow.holds Tryd.pinned (OpenSpec.upto topPrefixSpec)

/-- 'saltcellartop.TopSees', WHERE WHAT IT READS IS OF BULK AT MOST 1048576: true; the input reads as it did. -/
def topSeesUptoRow : OpenClaim := { program := "ytphbebcbbfbgpacdoor", sum := "10e45d8d57468ec6a50b7e00b934bbbcae00adbdcbee5cee789de14525bd4831", func := "saltcellar/saltcellartop.TopSees", spec := "topSees", inPlace := ["internal/abi.NoEscape", "internal/bytealg.MakeNoZero", "slices.overlaps[saltcellar/api.Write]", "slices.overlaps[saltcellar/api.Item]"], unfollowed := true, recurses := true, named := ["internal/strconv.uint64pow10", "math/bits.deBruijn32tab", "math/bits.deBruijn64tab"], apart := false, laid := [("math/bits.deBruijn32tab", laid_math_bits_deBruijn32tab), ("math/bits.deBruijn64tab", laid_math_bits_deBruijn64tab), ("internal/strconv.uint64pow10", laid_internal_strconv_uint64pow10)], narrowed := true }
def TopSeesUptoSaid : Prop := topSeesUptoRow.holds Tryd.pinned (OpenSpec.upto topSeesSpec)

/-- 'saltcellartop.TopAborted', WHERE WHAT IT READS IS OF BULK AT MOST 1048576: true; the input reads as it did. -/
def topAbortedUptoRow : OpenClaim := { program := "ytphbebcbbfbgpacdoor", sum := "10e45d8d57468ec6a50b7e00b934bbbcae00adbdcbee5cee789de14525bd4831", func := "saltcellar/saltcellartop.TopAborted", spec := "topAborted", inPlace := ["internal/abi.NoEscape", "internal/bytealg.MakeNoZero", "slices.overlaps[saltcellar/api.Write]", "slices.overlaps[saltcellar/api.Item]"], unfollowed := true, recurses := true, named := ["internal/strconv.uint64pow10", "math/bits.deBruijn32tab", "math/bits.deBruijn64tab"], apart := false, laid := [("math/bits.deBruijn32tab", laid_math_bits_deBruijn32tab), ("math/bits.deBruijn64tab", laid_math_bits_deBruijn64tab), ("internal/strconv.uint64pow10", laid_internal_strconv_uint64pow10)], narrowed := true }
def TopAbortedUptoSaid : Prop := topAbortedUptoRow.holds Tryd.pinned (OpenSpec.upto topAbortedSpec)

end Rows
end Go.Proofs.YtphbebcbbfbgpacDoor
