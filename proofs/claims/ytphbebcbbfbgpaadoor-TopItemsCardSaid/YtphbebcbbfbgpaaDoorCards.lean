/-
  DERIVED. GIVEN WITH THE SEED: THE CARDS: each row of YtphbebcbbfbgpaaDoorRows.lean that lists a variable, with what it lists TIED to the program's text (the seventh form; the later family's looks); each row that meets fmt, with fmt's text TOLD by the authors' own Lean function (tested against real Go, not proved from fmt's source: count such statements apart). THE CARD IS WHAT COUNTS. Prove the row's statement (the work); the ties are given (YtphbebcbbfbgpaaDoorTie.lean); close each card by the builder's one call (the guide's Derived/Test/ToyasCard.lean, 'card_holds'). Laid BY PROGRAM, IN A SANDBOX (cutbox-door.mjs). By AI agents, Wed Nov 11 2026. No macro, syntax, notation, axiom, sorry.
-/
import Derived.Test.YtphbebcbbfbgpaaDoorRows
import GoSem.ClaimSeven
namespace Go.Proofs.YtphbebcbbfbgpaaDoor
namespace Rows

/-- THE TIED CARD OF 'saltcellartop.TopItems'. -/
def topItemsCard : Claim7 := { stood := { row := topItemsRow, standIns := [], harness := (true, "291f8e7d06b8addbb0f6ed441e1fbc6a66670317d9d04d633f36e0cee5fb4143"), looks := false }, kinds := [], alts := [], laidByText := true, laidKinds := [.data, .data, .data], laidTests := true, laidLooks := .later }
def TopItemsCardSaid : Prop := Claim7.holds Tryd.pinned (.plain (OpenSpec.ofChange topItemsSpec)) topItemsCard

/-- THE SECOND FORM's CARD OF 'saltcellartop.TopItems'. -/
def topItemsUptoCard : Claim7 := { stood := { row := topItemsUptoRow, standIns := [], harness := (true, "291f8e7d06b8addbb0f6ed441e1fbc6a66670317d9d04d633f36e0cee5fb4143"), looks := false }, kinds := [], alts := [], laidByText := true, laidKinds := [.data, .data, .data], laidTests := true, laidLooks := .later }
def TopItemsUptoCardSaid : Prop := Claim7.holds Tryd.pinned (.plain (OpenSpec.upto topItemsSpec)) topItemsUptoCard
end Rows
end Go.Proofs.YtphbebcbbfbgpaaDoor
