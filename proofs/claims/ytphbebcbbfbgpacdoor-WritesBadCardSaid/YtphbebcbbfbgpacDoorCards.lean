/-
  DERIVED. GIVEN WITH THE SEED: THE CARDS: each row of YtphbebcbbfbgpacDoorRows.lean that lists a variable, with what it lists TIED to the program's text (the seventh form; the later family's looks); each row that meets fmt, with fmt's text TOLD by the authors' own Lean function (tested against real Go, not proved from fmt's source: count such statements apart). THE CARD IS WHAT COUNTS. Prove the row's statement (the work); the ties are given (YtphbebcbbfbgpacDoorTie.lean); close each card by the builder's one call (the guide's Derived/Test/ToyasCard.lean, 'card_holds'). Laid BY PROGRAM, IN A SANDBOX (cutbox-door.mjs). By AI agents, Wed Nov 11 2026. No macro, syntax, notation, axiom, sorry.
-/
import Derived.Test.YtphbebcbbfbgpacDoorRows
import GoSem.ClaimSeven
namespace Go.Proofs.YtphbebcbbfbgpacDoor
namespace Rows

/-- THE TIED CARD OF 'saltcellarkeep.EnginesGood'. -/
def enginesGoodCard : Claim7 := { stood := { row := enginesGoodRow, standIns := [], harness := (true, "ac1f68292ac2464c3bc96a50611afa6490bb61582d3668a83cb8a65517e869c4"), looks := false }, kinds := [], alts := [], laidByText := true, laidKinds := [.data, .data, .data], laidTests := true, laidLooks := .later }
def EnginesGoodCardSaid : Prop := Claim7.holds Tryd.pinned (.plain (OpenSpec.ofChange enginesGoodSpec)) enginesGoodCard

/-- THE TIED CARD OF 'saltcellarkeep.ItemsOnce'. -/
def itemsOnceCard : Claim7 := { stood := { row := itemsOnceRow, standIns := [], harness := (true, "ac1f68292ac2464c3bc96a50611afa6490bb61582d3668a83cb8a65517e869c4"), looks := false }, kinds := [], alts := [], laidByText := true, laidKinds := [.data, .data, .data], laidTests := true, laidLooks := .later }
def ItemsOnceCardSaid : Prop := Claim7.holds Tryd.pinned (.plain (OpenSpec.ofChange itemsOnceSpec)) itemsOnceCard

/-- THE TIED CARD OF 'saltcellarkeep.WritesBad'. -/
def writesBadCard : Claim7 := { stood := { row := writesBadRow, standIns := [], harness := (true, "ac1f68292ac2464c3bc96a50611afa6490bb61582d3668a83cb8a65517e869c4"), looks := false }, kinds := [], alts := [], laidByText := true, laidKinds := [.data, .data, .data], laidTests := true, laidLooks := .later }
def WritesBadCardSaid : Prop := Claim7.holds Tryd.pinned (.plain (OpenSpec.ofChange writesBadSpec)) writesBadCard

/-- THE TIED CARD OF 'saltcellarkeep.UsesCount'. -/
def usesCountCard : Claim7 := { stood := { row := usesCountRow, standIns := [], harness := (true, "ac1f68292ac2464c3bc96a50611afa6490bb61582d3668a83cb8a65517e869c4"), looks := false }, kinds := [], alts := [], laidByText := true, laidKinds := [.data, .data, .data], laidTests := true, laidLooks := .later }
def UsesCountCardSaid : Prop := Claim7.holds Tryd.pinned (.plain (OpenSpec.ofChange usesCountSpec)) usesCountCard

/-- THE TIED CARD OF 'saltcellarkeep.WritesRead'. -/
def writesReadCard : Claim7 := { stood := { row := writesReadRow, standIns := [], harness := (true, "ac1f68292ac2464c3bc96a50611afa6490bb61582d3668a83cb8a65517e869c4"), looks := false }, kinds := [], alts := [], laidByText := true, laidKinds := [.data, .data, .data], laidTests := true, laidLooks := .later }
def WritesReadCardSaid : Prop := Claim7.holds Tryd.pinned (.plain (OpenSpec.ofChange writesReadSpec)) writesReadCard

/-- THE TIED CARD OF 'saltcellarkeep.WritesUndone'. -/
def writesUndoneCard : Claim7 := { stood := { row := writesUndoneRow, standIns := [], harness := (true, "ac1f68292ac2464c3bc96a50611afa6490bb61582d3668a83cb8a65517e869c4"), looks := false }, kinds := [], alts := [], laidByText := true, laidKinds := [.data, .data, .data], laidTests := true, laidLooks := .later }
def WritesUndoneCardSaid : Prop := Claim7.holds Tryd.pinned (.plain (OpenSpec.ofChange writesUndoneSpec)) writesUndoneCard

/-- THE TIED CARD OF 'saltcellartop.TopMarked'. -/
def topMarkedCard : Claim7 := { stood := { row := topMarkedRow, standIns := [], harness := (true, "ac1f68292ac2464c3bc96a50611afa6490bb61582d3668a83cb8a65517e869c4"), looks := false }, kinds := [], alts := [], laidByText := true, laidKinds := [.data, .data, .data], laidTests := true, laidLooks := .later }
def TopMarkedCardSaid : Prop := Claim7.holds Tryd.pinned (.plain (OpenSpec.ofChange topMarkedSpec)) topMarkedCard

/-- THE TIED CARD OF 'saltcellartop.TopTwice'. -/
def topTwiceCard : Claim7 := { stood := { row := topTwiceRow, standIns := [], harness := (true, "ac1f68292ac2464c3bc96a50611afa6490bb61582d3668a83cb8a65517e869c4"), looks := false }, kinds := [], alts := [], laidByText := true, laidKinds := [.data, .data, .data], laidTests := true, laidLooks := .later }
def TopTwiceCardSaid : Prop := Claim7.holds Tryd.pinned (.plain (OpenSpec.ofChange topTwiceSpec)) topTwiceCard

/-- THE TIED CARD OF 'saltcellartop.TopPrefix'. -/
def topPrefixCard : Claim7 := { stood := { row := topPrefixRow, standIns := [], harness := (true, "ac1f68292ac2464c3bc96a50611afa6490bb61582d3668a83cb8a65517e869c4"), looks := false }, kinds := [], alts := [], laidByText := true, laidKinds := [.data, .data, .data], laidTests := true, laidLooks := .later }
def TopPrefixCardSaid : Prop := Claim7.holds Tryd.pinned (.plain (OpenSpec.ofChange topPrefixSpec)) topPrefixCard

/-- THE TIED CARD OF 'saltcellartop.TopSees'. -/
def topSeesCard : Claim7 := { stood := { row := topSeesRow, standIns := [], harness := (true, "ac1f68292ac2464c3bc96a50611afa6490bb61582d3668a83cb8a65517e869c4"), looks := false }, kinds := [], alts := [], laidByText := true, laidKinds := [.data, .data, .data], laidTests := true, laidLooks := .later }
def TopSeesCardSaid : Prop := Claim7.holds Tryd.pinned (.plain (OpenSpec.ofChange topSeesSpec)) topSeesCard

/-- THE TIED CARD OF 'saltcellartop.TopAborted'. -/
def topAbortedCard : Claim7 := { stood := { row := topAbortedRow, standIns := [], harness := (true, "ac1f68292ac2464c3bc96a50611afa6490bb61582d3668a83cb8a65517e869c4"), looks := false }, kinds := [], alts := [], laidByText := true, laidKinds := [.data, .data, .data], laidTests := true, laidLooks := .later }
def TopAbortedCardSaid : Prop := Claim7.holds Tryd.pinned (.plain (OpenSpec.ofChange topAbortedSpec)) topAbortedCard

/-- THE SECOND FORM's CARD OF 'saltcellarkeep.EnginesGood'. -/
def enginesGoodUptoCard : Claim7 := { stood := { row := enginesGoodUptoRow, standIns := [], harness := (true, "ac1f68292ac2464c3bc96a50611afa6490bb61582d3668a83cb8a65517e869c4"), looks := false }, kinds := [], alts := [], laidByText := true, laidKinds := [.data, .data, .data], laidTests := true, laidLooks := .later }
def EnginesGoodUptoCardSaid : Prop := Claim7.holds Tryd.pinned (.plain (OpenSpec.upto enginesGoodSpec)) enginesGoodUptoCard

/-- THE SECOND FORM's CARD OF 'saltcellarkeep.ItemsOnce'. -/
def itemsOnceUptoCard : Claim7 := { stood := { row := itemsOnceUptoRow, standIns := [], harness := (true, "ac1f68292ac2464c3bc96a50611afa6490bb61582d3668a83cb8a65517e869c4"), looks := false }, kinds := [], alts := [], laidByText := true, laidKinds := [.data, .data, .data], laidTests := true, laidLooks := .later }
def ItemsOnceUptoCardSaid : Prop := Claim7.holds Tryd.pinned (.plain (OpenSpec.upto itemsOnceSpec)) itemsOnceUptoCard

/-- THE SECOND FORM's CARD OF 'saltcellarkeep.WritesBad'. -/
def writesBadUptoCard : Claim7 := { stood := { row := writesBadUptoRow, standIns := [], harness := (true, "ac1f68292ac2464c3bc96a50611afa6490bb61582d3668a83cb8a65517e869c4"), looks := false }, kinds := [], alts := [], laidByText := true, laidKinds := [.data, .data, .data], laidTests := true, laidLooks := .later }
def WritesBadUptoCardSaid : Prop := Claim7.holds Tryd.pinned (.plain (OpenSpec.upto writesBadSpec)) writesBadUptoCard

/-- THE SECOND FORM's CARD OF 'saltcellarkeep.UsesCount'. -/
def usesCountUptoCard : Claim7 := { stood := { row := usesCountUptoRow, standIns := [], harness := (true, "ac1f68292ac2464c3bc96a50611afa6490bb61582d3668a83cb8a65517e869c4"), looks := false }, kinds := [], alts := [], laidByText := true, laidKinds := [.data, .data, .data], laidTests := true, laidLooks := .later }
def UsesCountUptoCardSaid : Prop := Claim7.holds Tryd.pinned (.plain (OpenSpec.upto usesCountSpec)) usesCountUptoCard

/-- THE SECOND FORM's CARD OF 'saltcellarkeep.WritesRead'. -/
def writesReadUptoCard : Claim7 := { stood := { row := writesReadUptoRow, standIns := [], harness := (true, "ac1f68292ac2464c3bc96a50611afa6490bb61582d3668a83cb8a65517e869c4"), looks := false }, kinds := [], alts := [], laidByText := true, laidKinds := [.data, .data, .data], laidTests := true, laidLooks := .later }
def WritesReadUptoCardSaid : Prop := Claim7.holds Tryd.pinned (.plain (OpenSpec.upto writesReadSpec)) writesReadUptoCard

/-- THE SECOND FORM's CARD OF 'saltcellarkeep.WritesUndone'. -/
def writesUndoneUptoCard : Claim7 := { stood := { row := writesUndoneUptoRow, standIns := [], harness := (true, "ac1f68292ac2464c3bc96a50611afa6490bb61582d3668a83cb8a65517e869c4"), looks := false }, kinds := [], alts := [], laidByText := true, laidKinds := [.data, .data, .data], laidTests := true, laidLooks := .later }
def WritesUndoneUptoCardSaid : Prop := Claim7.holds Tryd.pinned (.plain (OpenSpec.upto writesUndoneSpec)) writesUndoneUptoCard

/-- THE SECOND FORM's CARD OF 'saltcellartop.TopMarked'. -/
def topMarkedUptoCard : Claim7 := { stood := { row := topMarkedUptoRow, standIns := [], harness := (true, "ac1f68292ac2464c3bc96a50611afa6490bb61582d3668a83cb8a65517e869c4"), looks := false }, kinds := [], alts := [], laidByText := true, laidKinds := [.data, .data, .data], laidTests := true, laidLooks := .later }
def TopMarkedUptoCardSaid : Prop := Claim7.holds Tryd.pinned (.plain (OpenSpec.upto topMarkedSpec)) topMarkedUptoCard

/-- THE SECOND FORM's CARD OF 'saltcellartop.TopTwice'. -/
def topTwiceUptoCard : Claim7 := { stood := { row := topTwiceUptoRow, standIns := [], harness := (true, "ac1f68292ac2464c3bc96a50611afa6490bb61582d3668a83cb8a65517e869c4"), looks := false }, kinds := [], alts := [], laidByText := true, laidKinds := [.data, .data, .data], laidTests := true, laidLooks := .later }
def TopTwiceUptoCardSaid : Prop := Claim7.holds Tryd.pinned (.plain (OpenSpec.upto topTwiceSpec)) topTwiceUptoCard

/-- THE SECOND FORM's CARD OF 'saltcellartop.TopPrefix'. -/
def topPrefixUptoCard : Claim7 := { stood := { row := topPrefixUptoRow, standIns := [], harness := (true, "ac1f68292ac2464c3bc96a50611afa6490bb61582d3668a83cb8a65517e869c4"), looks := false }, kinds := [], alts := [], laidByText := true, laidKinds := [.data, .data, .data], laidTests := true, laidLooks := .later }
def TopPrefixUptoCardSaid : Prop := Claim7.holds Tryd.pinned (.plain (OpenSpec.upto topPrefixSpec)) topPrefixUptoCard

/-- THE SECOND FORM's CARD OF 'saltcellartop.TopSees'. -/
def topSeesUptoCard : Claim7 := { stood := { row := topSeesUptoRow, standIns := [], harness := (true, "ac1f68292ac2464c3bc96a50611afa6490bb61582d3668a83cb8a65517e869c4"), looks := false }, kinds := [], alts := [], laidByText := true, laidKinds := [.data, .data, .data], laidTests := true, laidLooks := .later }
def TopSeesUptoCardSaid : Prop := Claim7.holds Tryd.pinned (.plain (OpenSpec.upto topSeesSpec)) topSeesUptoCard

/-- THE SECOND FORM's CARD OF 'saltcellartop.TopAborted'. -/
def topAbortedUptoCard : Claim7 := { stood := { row := topAbortedUptoRow, standIns := [], harness := (true, "ac1f68292ac2464c3bc96a50611afa6490bb61582d3668a83cb8a65517e869c4"), looks := false }, kinds := [], alts := [], laidByText := true, laidKinds := [.data, .data, .data], laidTests := true, laidLooks := .later }
def TopAbortedUptoCardSaid : Prop := Claim7.holds Tryd.pinned (.plain (OpenSpec.upto topAbortedSpec)) topAbortedUptoCard
end Rows
end Go.Proofs.YtphbebcbbfbgpacDoor
